/-
  Draws of a doubling and points of a line.
-/
import Derived.Test.YtgcelfnjijhmkaaGreatDpQ
namespace Go.Proofs.YtgcelfnjijhmkaaGreat
open Go.RowKit

set_option maxHeartbeats 8000000 in
set_option maxRecDepth 100000 in
theorem sdrawline_c {v : Value} {n : Nat} {w : World} (hc : Co w w.heap.size v n) :
    Calls Tryz.prog 22 #[v] w fun e w' => DrP2 w e w' := by
  obtain ⟨a, c, rfl, _⟩ := id hc
  go_enter Tryz.func22, Tryz.ntmps22
  go_wp2_with fail
  obtain ⟨W1, hW1⟩ : ∃ x, x = (((w.alloc (.cells #[.int .i64 0, .slice none 0 0] 26)).alloc (.cells #[.slice none 0 0, .slice none 0 0] 31)).alloc (.cells #[.slice none 0 0, .slice none 0 0] 31)) := ⟨_, rfl⟩
  have hb1 : Below w.heap.size w W1 := by rw [hW1]; exact (by repeat (first | exact Below.refl _ _ | apply blw_drew | apply blw_alloc | (refine blw_set ?_ (by first | omega | simp <;> omega) _) | refine below_chain ?_ (by assumption)))
  have hz1 : W1.heap.size = w.heap.size + 1 + 1 + 1 := by rw [hW1]; simp
  have ra0 : Bd W1 w.heap.size (.int .i64 0) (.slice none 0 0) := by rw [hW1]; exact Bd.below (heap_alloc_new w _) (by repeat (first | exact Below.refl _ _ | apply blw_drew | apply blw_alloc | (refine blw_set ?_ (by first | omega | simp <;> omega) _) | refine below_chain ?_ (by assumption)))
  have ra1 : Bx W1 (w.heap.size + 1) (.slice none 0 0) (.slice none 0 0) := by
    rw [hW1]
    have h := heap_alloc_new (w.alloc (.cells #[.int .i64 0, .slice none 0 0] 26)) (.cells #[.slice none 0 0, .slice none 0 0] 31)
    rw [show (w.alloc (.cells #[.int .i64 0, .slice none 0 0] 26)).heap.size = w.heap.size + 1 by simp] at h
    exact Bx.below h (by repeat (first | exact Below.refl _ _ | apply blw_drew | apply blw_alloc | (refine blw_set ?_ (by first | omega | simp <;> omega) _) | refine below_chain ?_ (by assumption)))
  have ra2 : Bx W1 (w.heap.size + 1 + 1) (.slice none 0 0) (.slice none 0 0) := by
    rw [hW1]
    have h := heap_alloc_new ((w.alloc (.cells #[.int .i64 0, .slice none 0 0] 26)).alloc (.cells #[.slice none 0 0, .slice none 0 0] 31)) (.cells #[.slice none 0 0, .slice none 0 0] 31)
    rw [show ((w.alloc (.cells #[.int .i64 0, .slice none 0 0] 26)).alloc (.cells #[.slice none 0 0, .slice none 0 0] 31)).heap.size = w.heap.size + 1 + 1 by simp] at h
    exact h
  rw [← hW1]; clear hW1
  refine (sfrom_c ((hc.below hb1).wide (by omega))).mono ?_; rintro e w2 ⟨rfl, hs, hz2, hb2⟩
  obtain ⟨q, hqe⟩ : ∃ q, q = W1.heap.size := ⟨_, rfl⟩
  rw [← hqe] at hs ⊢
  have hq3 : w.heap.size + 3 ≤ q ∧ q ≤ w.heap.size + 3 := by omega
  have ra0 := ra0.below hb2
  have ra1 := ra1.below hb2
  have ra2 := ra2.below hb2
  have hbw := hb1.trans (hb2.mono (by omega))
  have hzz : q + 1 ≤ w2.heap.size := by omega
  clear hqe hz1 hz2
  go_wp2_with fail
  refine (sl17draw_c hs).mono ?_; rintro e w3 ⟨p, v3, st, rfl, hp1, hp2, hl5, ho, hs, hc3⟩
  have ra0 := ra0.chg hc3 (.inl (by omega)); have ra1 := ra1.chg hc3 (.inl (by omega)); have ra2 := ra2.chg hc3 (.inl (by omega)); have hbw := below_bchg hbw hc3 (by omega) hbw.size; have hzz := Nat.le_trans hzz hc3.size
  have hE := (ho.elr).more (B' := q + 1) (by omega)
  obtain ⟨av, nv, cv, rfl⟩ := ho.form
  obtain rfl : nv = st.length := ho.len
  clear ho hc3
  go_wp2_with fail
  have hb5 : Below w3.heap.size w3 (w3.alloc (.cells #[.int .i64 p, .slice av st.length cv] 26)) := (by repeat (first | exact Below.refl _ _ | apply blw_drew | apply blw_alloc | (refine blw_set ?_ (by first | omega | simp <;> omega) _) | refine below_chain ?_ (by assumption)))
  have hd : Bd (w3.alloc (.cells #[.int .i64 p, .slice av st.length cv] 26)) w3.heap.size (.int .i64 p) (.slice av st.length cv) := heap_alloc_new _ _
  obtain ⟨M, hM⟩ : ∃ M, M = w3.heap.size := ⟨_, rfl⟩
  obtain ⟨W5, hW5⟩ : ∃ x, x = (w3.alloc (.cells #[.int .i64 p, .slice av st.length cv] 26)) := ⟨_, rfl⟩
  rw [← hW5] at hb5 hd ⊢
  rw [← hM] at hd ⊢
  have hMl : q + 1 ≤ M := by omega
  clear hM hW5
  have ra0 := ra0.below hb5; have ra1 := ra1.below hb5; have ra2 := ra2.below hb5; have hbw := hbw.trans (hb5.mono hbw.size); have hzz := Nat.le_trans hzz hb5.size
  have hs := hs.below hb5
  have hE := hE.below hb5
  clear hb5
  refine (sdrawpt_c hs hE (by omega) hp1 hp2 hl5).mono ?_; rintro e w6 ⟨v_, X, rfl, hVx, hZx, hs, hc_⟩
  have hVx := hVx.more (B' := q + 1) hzz
  have ra0 := ra0.chg hc_ (.inl (by omega)); have ra1 := ra1.chg hc_ (.inl (by omega)); have ra2 := ra2.chg hc_ (.inl (by omega)); have hbw := below_bchg hbw hc_ (by omega) hbw.size; have hzz := Nat.le_trans hzz hc_.size
  have hd := hd.chg hc_ (.inr (by omega))
  have hE := hE.chg hc_ (by omega)
  obtain ⟨ax, cx, b_x, ex, rfl⟩ := hvr_shape hVx
  clear hc_
  go_wp2_with fail
  have hb_ : Below w6.heap.size w6 (w6.alloc (.cells #[.slice ax X.dg.length cx, .slice b_x X.up.length ex] 31)) := (by repeat (first | exact Below.refl _ _ | apply blw_drew | apply blw_alloc | (refine blw_set ?_ (by first | omega | simp <;> omega) _) | refine below_chain ?_ (by assumption)))
  have hN : Bx (w6.alloc (.cells #[.slice ax X.dg.length cx, .slice b_x X.up.length ex] 31)) w6.heap.size (.slice ax X.dg.length cx) (.slice b_x X.up.length ex) := heap_alloc_new _ _
  obtain ⟨N, hM_⟩ : ∃ M, M = w6.heap.size := ⟨_, rfl⟩
  obtain ⟨W7, hW_⟩ : ∃ x, x = (w6.alloc (.cells #[.slice ax X.dg.length cx, .slice b_x X.up.length ex] 31)) := ⟨_, rfl⟩
  rw [← hW_] at hb_ hN ⊢
  rw [← hM_] at hN ⊢
  have hNl : q + 1 ≤ N := by omega
  clear hW_ hM_
  have ra0 := ra0.below hb_; have ra1 := ra1.below hb_; have ra2 := ra2.below hb_; have hbw := hbw.trans (hb_.mono hbw.size); have hzz := Nat.le_trans hzz hb_.size
  have hs := hs.below hb_
  have hd := hd.below hb_
  have hE := hE.below hb_
  have hVx := hVx.below hb_
  clear hb_
  refine (snext_c hs (by decide) (by decide)).mono ?_; rintro e w8 ⟨y, rfl, hy0, hy1, hs, hc_, hz_⟩
  clear hz_
  have ra0 := ra0.chg hc_ (.inl (by omega)); have ra1 := ra1.chg hc_ (.inl (by omega)); have ra2 := ra2.chg hc_ (.inl (by omega)); have hbw := below_bchg hbw hc_ (by omega) hbw.size; have hzz := Nat.le_trans hzz hc_.size
  have hd := hd.chg hc_ (.inr (by omega))
  have hE := hE.chg hc_ (by omega)
  have hN := hN.chg hc_ (.inr (by omega))
  have hVx := hVx.chg hc_ (by omega)
  clear hc_
  by_cases hy : y = 0
  case pos =>
    subst hy
    go_upto_region 5 with fail
    have hbq_ : Below w8.heap.size w8 w8.drew := (by repeat (first | exact Below.refl _ _ | apply blw_drew | apply blw_alloc | (refine blw_set ?_ (by first | omega | simp <;> omega) _) | refine below_chain ?_ (by assumption)))
    have ra0 := ra0.below hbq_; have ra1 := ra1.below hbq_; have ra2 := ra2.below hbq_; have hbw := hbw.trans (hbq_.mono hbw.size); have hzz := Nat.le_trans hzz hbq_.size
    have hs := hs.below hbq_
    have hd := hd.below hbq_
    have hE := hE.below hbq_
    have hN := hN.below hbq_
    have hVx := hVx.below hbq_
    clear hbq_
    refine @region_flowR ⟨w.heap.size, q + 1⟩ _ [(false, [(0, 1), (1, 1), (2, 1), (3, 5)]), (false, [(4, 5)]), (false, [(5, 4)])] _ _ _ _ _ (by kernel_rfl) ?_
    refine norm_K fun K hK => ?_
    change wpList _ _ _ [_, _, _, _] _ _
    generalize w8.drew = wq at *
    have hcq : Chg w.heap.size (q + 1) wq wq := Chg.refl
    have d0 := hd.c0; have d1 := hd.c1; have n0 := hN.c0; have n1 := hN.c1
    have r00 := ra0.c0; have r01 := ra0.c1; have f00 := ra0.f 0; have f01 := ra0.f 1; have r10 := ra1.c0; have r11 := ra1.c1; have f10 := ra1.f0; have f11 := ra1.f1; have r20 := ra2.c0; have r21 := ra2.c1; have f20 := ra2.f0; have f21 := ra2.f1
    go_wp2_with fail
    first | (refine hK _ _ ⟨(chg_set (chg_set hcq (b := w.heap.size) (k := 0) (by omega) (by omega) (.int .i64 p)) (b := w.heap.size) (k := 1) (by omega) (by omega) (.slice av st.length cv)), ?_⟩; clear hK K) | refine ⟨(chg_set (chg_set hcq (b := w.heap.size) (k := 0) (by omega) (by omega) (.int .i64 p)) (b := w.heap.size) (k := 1) (by omega) (by omega) (.slice av st.length cv)), ?_⟩
    refine norm_K fun K hK => ?_
    change wpList _ _ _ [_] _ _
    go_wp2_with fail
    first | (refine hK _ _ ⟨(chg_set (chg_set (chg_set (chg_set hcq (b := w.heap.size) (k := 0) (by omega) (by omega) (.int .i64 p)) (b := w.heap.size) (k := 1) (by omega) (by omega) (.slice av st.length cv)) (b := w.heap.size + 1) (k := 0) (by omega) (by omega) (.slice ax X.dg.length cx)) (b := w.heap.size + 1) (k := 1) (by omega) (by omega) (.slice b_x X.up.length ex)), ?_⟩; clear hK K) | refine ⟨(chg_set (chg_set (chg_set (chg_set hcq (b := w.heap.size) (k := 0) (by omega) (by omega) (.int .i64 p)) (b := w.heap.size) (k := 1) (by omega) (by omega) (.slice av st.length cv)) (b := w.heap.size + 1) (k := 0) (by omega) (by omega) (.slice ax X.dg.length cx)) (b := w.heap.size + 1) (k := 1) (by omega) (by omega) (.slice b_x X.up.length ex)), ?_⟩
    refine norm_K fun K hK => ?_
    change wpList _ _ _ [_] _ _
    go_wp2_with fail
    first | (refine hK _ _ ⟨⟨rfl, ?_⟩, ?_⟩; clear hK K) | refine ⟨⟨rfl, ?_⟩, ?_⟩
    · repeat' (first | exact trivial | exact ⟨_, rfl, (show M < w.heap.size ∨ q + 1 ≤ M by omega), _, _, _, hd⟩ | exact ⟨_, rfl, (show N < w.heap.size ∨ q + 1 ≤ N by omega), _, _, _, hN⟩ | refine And.intro ?_ ?_)
    go_wp2_with fail
    have hCF := (chg_set (chg_set (chg_set (chg_set (chg_set (chg_set hcq (b := w.heap.size) (k := 0) (by omega) (by omega) (.int .i64 p)) (b := w.heap.size) (k := 1) (by omega) (by omega) (.slice av st.length cv)) (b := w.heap.size + 1) (k := 0) (by omega) (by omega) (.slice ax X.dg.length cx)) (b := w.heap.size + 1) (k := 1) (by omega) (by omega) (.slice b_x X.up.length ex)) (b := w.heap.size + 1 + 1) (k := 0) (by omega) (by omega) (.slice ax X.dg.length cx)) (b := w.heap.size + 1 + 1) (k := 1) (by omega) (by omega) (.slice b_x X.up.length ex))
    refine bodyPost_ret (v := .tuple #[.agg #[.int .i64 p, .slice av st.length cv], .agg #[.slice ax X.dg.length cx, .slice b_x X.up.length ex], .agg #[.slice ax X.dg.length cx, .slice b_x X.up.length ex]]) (by simp [results, Tryz.results22, go_sem, r00, r01, r10, r11, r20, r21]) rfl ?_
    exact ⟨p, _, _, _, st, X, X, rfl, hp1, hp2, hl5, (hE.chg hCF (by omega)).more (by omega), (hVx.chg hCF (by omega)).more (by omega), (hVx.chg hCF (by omega)).more (by omega), hZx, hZx, ((below_bchg hbw hCF (Nat.le_refl _) hbw.size))⟩
  have hy_ : (y == 0) = false := by simpa using hy
  go_upto_region 6 with fail
  have hbq_ : Below w8.heap.size w8 w8.drew := (by repeat (first | exact Below.refl _ _ | apply blw_drew | apply blw_alloc | (refine blw_set ?_ (by first | omega | simp <;> omega) _) | refine below_chain ?_ (by assumption)))
  have ra0 := ra0.below hbq_; have ra1 := ra1.below hbq_; have ra2 := ra2.below hbq_; have hbw := hbw.trans (hbq_.mono hbw.size); have hzz := Nat.le_trans hzz hbq_.size
  have hs := hs.below hbq_
  have hd := hd.below hbq_
  have hE := hE.below hbq_
  have hN := hN.below hbq_
  have hVx := hVx.below hbq_
  clear hbq_
  refine @region_flowR ⟨w.heap.size, q + 1⟩ _ [(false, [(0, 1), (1, 1), (2, 0), (3, 1), (4, 5)]), (false, [(5, 5)]), (false, [(6, 4), (7, 4)])] _ _ _ _ _ (by kernel_rfl) ?_
  refine norm_K fun K hK => ?_
  change wpList _ _ _ [_, _, _, _, _] _ _
  generalize w8.drew = wq at *
  have hcq : Chg w.heap.size (q + 1) wq wq := Chg.refl
  have d0 := hd.c0; have d1 := hd.c1; have n0 := hN.c0; have n1 := hN.c1; have hld := hd; have hln := hN
  go_wp2_with fail
  refine (sdrawpt_c hs hE (by omega) hp1 hp2 hl5).mono ?_; rintro e w9 ⟨v_, Y, rfl, hVy, hZy, hs, hc_⟩
  have hVy := hVy.more (B' := q + 1) hzz
  have ra0 := ra0.chg hc_ (.inl (by omega)); have ra1 := ra1.chg hc_ (.inl (by omega)); have ra2 := ra2.chg hc_ (.inl (by omega)); have hbw := below_bchg hbw hc_ (by omega) hbw.size; have hzz := Nat.le_trans hzz hc_.size
  have hd := hd.chg hc_ (.inr (by omega))
  have hE := hE.chg hc_ (by omega)
  have hN := hN.chg hc_ (.inr (by omega))
  have hVx := hVx.chg hc_ (by omega)
  obtain ⟨ay, cy, b_y, ey, rfl⟩ := hvr_shape hVy
  have hcq := hcq.trans (hc_.wide (lo' := w.heap.size) (hi' := q + 1) (by omega) (Nat.le_refl _))
  clear hc_
  have r00 := ra0.c0; have r01 := ra0.c1; have f00 := ra0.f 0; have f01 := ra0.f 1; have r10 := ra1.c0; have r11 := ra1.c1; have f10 := ra1.f0; have f11 := ra1.f1; have r20 := ra2.c0; have r21 := ra2.c1; have f20 := ra2.f0; have f21 := ra2.f1
  go_wp2_with fail
  first | (refine hK _ _ ⟨hcq, ?_⟩; clear hK K) | refine ⟨hcq, ?_⟩
  refine norm_K fun K hK => ?_
  change wpList _ _ _ [_] _ _
  go_wp2_with fail
  first | (refine hK _ _ ⟨(chg_set (chg_set hcq (b := w.heap.size) (k := 0) (by omega) (by omega) (.int .i64 p)) (b := w.heap.size) (k := 1) (by omega) (by omega) (.slice av st.length cv)), ?_⟩; clear hK K) | refine ⟨(chg_set (chg_set hcq (b := w.heap.size) (k := 0) (by omega) (by omega) (.int .i64 p)) (b := w.heap.size) (k := 1) (by omega) (by omega) (.slice av st.length cv)), ?_⟩
  refine norm_K fun K hK => ?_
  change wpList _ _ _ [_, _] _ _
  go_wp2_with fail
  first | (refine hK _ _ ⟨⟨rfl, ?_⟩, ?_⟩; clear hK K) | refine ⟨⟨rfl, ?_⟩, ?_⟩
  · repeat' (first | exact trivial | exact ⟨_, rfl, (show M < w.heap.size ∨ q + 1 ≤ M by omega), _, _, _, hld⟩ | exact ⟨_, rfl, (show N < w.heap.size ∨ q + 1 ≤ N by omega), _, _, _, hln⟩ | refine And.intro ?_ ?_)
  go_wp2_with fail
  have hcq : Chg w.heap.size (q + 1) w9 w9 := Chg.refl
  have hCF := (chg_set (chg_set (chg_set (chg_set (chg_set (chg_set hcq (b := w.heap.size) (k := 0) (by omega) (by omega) (.int .i64 p)) (b := w.heap.size) (k := 1) (by omega) (by omega) (.slice av st.length cv)) (b := w.heap.size + 1) (k := 0) (by omega) (by omega) (.slice ax X.dg.length cx)) (b := w.heap.size + 1) (k := 1) (by omega) (by omega) (.slice b_x X.up.length ex)) (b := w.heap.size + 1 + 1) (k := 0) (by omega) (by omega) (.slice ay Y.dg.length cy)) (b := w.heap.size + 1 + 1) (k := 1) (by omega) (by omega) (.slice b_y Y.up.length ey))
  refine bodyPost_ret (v := .tuple #[.agg #[.int .i64 p, .slice av st.length cv], .agg #[.slice ax X.dg.length cx, .slice b_x X.up.length ex], .agg #[.slice ay Y.dg.length cy, .slice b_y Y.up.length ey]]) (by simp [results, Tryz.results22, go_sem, r00, r01, r10, r11, r20, r21]) rfl ?_
  exact ⟨p, _, _, _, st, X, Y, rfl, hp1, hp2, hl5, (hE.chg hCF (by omega)).more (by omega), (hVx.chg hCF (by omega)).more (by omega), (hVy.chg hCF (by omega)).more (by omega), hZx, hZy, ((below_bchg hbw hCF (Nat.le_refl _) hbw.size))⟩
set_option maxHeartbeats 8000000 in
set_option maxRecDepth 100000 in
theorem sdrawcol_c {v : Value} {n : Nat} {w : World} (hc : Co w w.heap.size v n) :
    Calls Tryz.prog 26 #[v] w fun e w' => DrP3 w e w' := by
  obtain ⟨a, c, rfl, _⟩ := id hc
  go_enter Tryz.func26, Tryz.ntmps26
  go_wp2_with fail
  obtain ⟨W1, hW1⟩ : ∃ x, x = ((((w.alloc (.cells #[.int .i64 0, .slice none 0 0] 26)).alloc (.cells #[.slice none 0 0, .slice none 0 0] 31)).alloc (.cells #[.slice none 0 0, .slice none 0 0] 31)).alloc (.cells #[.slice none 0 0, .slice none 0 0] 31)) := ⟨_, rfl⟩
  have hb1 : Below w.heap.size w W1 := by rw [hW1]; exact (by repeat (first | exact Below.refl _ _ | apply blw_drew | apply blw_alloc | (refine blw_set ?_ (by first | omega | simp <;> omega) _) | refine below_chain ?_ (by assumption)))
  have hz1 : W1.heap.size = w.heap.size + 1 + 1 + 1 + 1 := by rw [hW1]; simp
  have ra0 : Bd W1 w.heap.size (.int .i64 0) (.slice none 0 0) := by rw [hW1]; exact Bd.below (heap_alloc_new w _) (by repeat (first | exact Below.refl _ _ | apply blw_drew | apply blw_alloc | (refine blw_set ?_ (by first | omega | simp <;> omega) _) | refine below_chain ?_ (by assumption)))
  have ra1 : Bx W1 (w.heap.size + 1) (.slice none 0 0) (.slice none 0 0) := by
    rw [hW1]
    have h := heap_alloc_new (w.alloc (.cells #[.int .i64 0, .slice none 0 0] 26)) (.cells #[.slice none 0 0, .slice none 0 0] 31)
    rw [show (w.alloc (.cells #[.int .i64 0, .slice none 0 0] 26)).heap.size = w.heap.size + 1 by simp] at h
    exact Bx.below h (by repeat (first | exact Below.refl _ _ | apply blw_drew | apply blw_alloc | (refine blw_set ?_ (by first | omega | simp <;> omega) _) | refine below_chain ?_ (by assumption)))
  have ra2 : Bx W1 (w.heap.size + 1 + 1) (.slice none 0 0) (.slice none 0 0) := by
    rw [hW1]
    have h := heap_alloc_new ((w.alloc (.cells #[.int .i64 0, .slice none 0 0] 26)).alloc (.cells #[.slice none 0 0, .slice none 0 0] 31)) (.cells #[.slice none 0 0, .slice none 0 0] 31)
    rw [show ((w.alloc (.cells #[.int .i64 0, .slice none 0 0] 26)).alloc (.cells #[.slice none 0 0, .slice none 0 0] 31)).heap.size = w.heap.size + 1 + 1 by simp] at h
    exact Bx.below h (by repeat (first | exact Below.refl _ _ | apply blw_drew | apply blw_alloc | (refine blw_set ?_ (by first | omega | simp <;> omega) _) | refine below_chain ?_ (by assumption)))
  have ra3 : Bx W1 (w.heap.size + 1 + 1 + 1) (.slice none 0 0) (.slice none 0 0) := by
    rw [hW1]
    have h := heap_alloc_new (((w.alloc (.cells #[.int .i64 0, .slice none 0 0] 26)).alloc (.cells #[.slice none 0 0, .slice none 0 0] 31)).alloc (.cells #[.slice none 0 0, .slice none 0 0] 31)) (.cells #[.slice none 0 0, .slice none 0 0] 31)
    rw [show (((w.alloc (.cells #[.int .i64 0, .slice none 0 0] 26)).alloc (.cells #[.slice none 0 0, .slice none 0 0] 31)).alloc (.cells #[.slice none 0 0, .slice none 0 0] 31)).heap.size = w.heap.size + 1 + 1 + 1 by simp] at h
    exact h
  rw [← hW1]; clear hW1
  refine (sfrom_c ((hc.below hb1).wide (by omega))).mono ?_; rintro e w2 ⟨rfl, hs, hz2, hb2⟩
  obtain ⟨q, hqe⟩ : ∃ q, q = W1.heap.size := ⟨_, rfl⟩
  rw [← hqe] at hs ⊢
  have hq3 : w.heap.size + 4 ≤ q ∧ q ≤ w.heap.size + 4 := by omega
  have ra0 := ra0.below hb2
  have ra1 := ra1.below hb2
  have ra2 := ra2.below hb2
  have ra3 := ra3.below hb2
  have hbw := hb1.trans (hb2.mono (by omega))
  have hzz : q + 1 ≤ w2.heap.size := by omega
  clear hqe hz1 hz2
  go_wp2_with fail
  refine (sdrawline_c (((hc.below hb1).below hb2).wide (by omega))).mono ?_; rintro e w3 ⟨p, v3, x3, y3, st, X, Y, rfl, hp1, hp2, hl5, hE, hVx, hVy, hZx, hZy, hb3⟩
  have hE := hE.more (B' := q + 1) hzz; have hVx := hVx.more (B' := q + 1) hzz; have hVy := hVy.more (B' := q + 1) hzz
  have ra0 := ra0.below hb3; have ra1 := ra1.below hb3; have ra2 := ra2.below hb3; have ra3 := ra3.below hb3; have hbw := hbw.trans (hb3.mono hbw.size); have hzz := Nat.le_trans hzz hb3.size
  have hs := hs.below hb3
  clear hb1 hb2 hb3
  obtain ⟨av, cv, rfl⟩ := hE.shape
  obtain ⟨ax, cx, b_x, ex, rfl⟩ := hvr_shape hVx
  obtain ⟨ay, cy, b_y, ey, rfl⟩ := hvr_shape hVy
  go_wp2_with fail
  have hb5 : Below w3.heap.size w3 (w3.alloc (.cells #[.int .i64 p, .slice av st.length cv] 26)) := (by repeat (first | exact Below.refl _ _ | apply blw_drew | apply blw_alloc | (refine blw_set ?_ (by first | omega | simp <;> omega) _) | refine below_chain ?_ (by assumption)))
  have hd : Bd (w3.alloc (.cells #[.int .i64 p, .slice av st.length cv] 26)) w3.heap.size (.int .i64 p) (.slice av st.length cv) := heap_alloc_new _ _
  obtain ⟨M, hM⟩ : ∃ M, M = w3.heap.size := ⟨_, rfl⟩
  obtain ⟨W5, hW5⟩ : ∃ x, x = (w3.alloc (.cells #[.int .i64 p, .slice av st.length cv] 26)) := ⟨_, rfl⟩
  rw [← hW5] at hb5 hd ⊢
  rw [← hM] at hd ⊢
  have hzM : W5.heap.size = M + 1 := by rw [hW5, hM]; simp
  have hMl : q + 1 ≤ M := by omega
  clear hM hW5
  have ra0 := ra0.below hb5; have ra1 := ra1.below hb5; have ra2 := ra2.below hb5; have ra3 := ra3.below hb5; have hbw := hbw.trans (hb5.mono hbw.size); have hzz := Nat.le_trans hzz hb5.size
  have hs := hs.below hb5
  have hE := hE.below hb5
  have hVx := hVx.below hb5
  have hVy := hVy.below hb5
  clear hb5
  have hb_ : Below W5.heap.size W5 (W5.alloc (.cells #[.slice ax X.dg.length cx, .slice b_x X.up.length ex] 31)) := (by repeat (first | exact Below.refl _ _ | apply blw_drew | apply blw_alloc | (refine blw_set ?_ (by first | omega | simp <;> omega) _) | refine below_chain ?_ (by assumption)))
  have hN := heap_alloc_new W5 (.cells #[.slice ax X.dg.length cx, .slice b_x X.up.length ex] 31)
  rw [hzM] at hN
  have hzM : (W5.alloc (.cells #[.slice ax X.dg.length cx, .slice b_x X.up.length ex] 31)).heap.size = M + 1 + 1 := by rw [show (W5.alloc (.cells #[.slice ax X.dg.length cx, .slice b_x X.up.length ex] 31)).heap.size = W5.heap.size + 1 by simp, hzM]
  obtain ⟨W6, hW_⟩ : ∃ x, x = (W5.alloc (.cells #[.slice ax X.dg.length cx, .slice b_x X.up.length ex] 31)) := ⟨_, rfl⟩
  rw [← hW_] at hb_ hzM hN ⊢
  change Bx W6 (M + 1) _ _ at hN
  clear hW_
  have ra0 := ra0.below hb_; have ra1 := ra1.below hb_; have ra2 := ra2.below hb_; have ra3 := ra3.below hb_; have hbw := hbw.trans (hb_.mono hbw.size); have hzz := Nat.le_trans hzz hb_.size
  have hs := hs.below hb_
  have hd := hd.below hb_
  have hE := hE.below hb_
  have hVx := hVx.below hb_
  have hVy := hVy.below hb_
  clear hb_
  have hb_ : Below W6.heap.size W6 (W6.alloc (.cells #[.slice ay Y.dg.length cy, .slice b_y Y.up.length ey] 31)) := (by repeat (first | exact Below.refl _ _ | apply blw_drew | apply blw_alloc | (refine blw_set ?_ (by first | omega | simp <;> omega) _) | refine below_chain ?_ (by assumption)))
  have hO := heap_alloc_new W6 (.cells #[.slice ay Y.dg.length cy, .slice b_y Y.up.length ey] 31)
  rw [hzM] at hO
  have hzM : (W6.alloc (.cells #[.slice ay Y.dg.length cy, .slice b_y Y.up.length ey] 31)).heap.size = M + 1 + 1 + 1 := by rw [show (W6.alloc (.cells #[.slice ay Y.dg.length cy, .slice b_y Y.up.length ey] 31)).heap.size = W6.heap.size + 1 by simp, hzM]
  obtain ⟨W7, hW_⟩ : ∃ x, x = (W6.alloc (.cells #[.slice ay Y.dg.length cy, .slice b_y Y.up.length ey] 31)) := ⟨_, rfl⟩
  rw [← hW_] at hb_ hzM hO ⊢
  change Bx W7 (M + 1 + 1) _ _ at hO
  clear hW_
  have ra0 := ra0.below hb_; have ra1 := ra1.below hb_; have ra2 := ra2.below hb_; have ra3 := ra3.below hb_; have hbw := hbw.trans (hb_.mono hbw.size); have hzz := Nat.le_trans hzz hb_.size
  have hs := hs.below hb_
  have hd := hd.below hb_
  have hE := hE.below hb_
  have hVx := hVx.below hb_
  have hVy := hVy.below hb_
  have hN := hN.below hb_
  clear hb_
  clear hzM
  clear hzM
  clear hzM
  refine (snext_c hs (by decide) (by decide)).mono ?_; rintro e w8 ⟨k, rfl, hk0, hk1, hs, hc_, hz_⟩
  clear hz_
  have ra0 := ra0.chg hc_ (.inl (by omega)); have ra1 := ra1.chg hc_ (.inl (by omega)); have ra2 := ra2.chg hc_ (.inl (by omega)); have ra3 := ra3.chg hc_ (.inl (by omega)); have hbw := below_bchg hbw hc_ (by omega) hbw.size; have hzz := Nat.le_trans hzz hc_.size
  have hd := hd.chg hc_ (.inr (by omega))
  have hE := hE.chg hc_ (by omega)
  have hVx := hVx.chg hc_ (by omega)
  have hVy := hVy.chg hc_ (by omega)
  have hN := hN.chg hc_ (.inr (by omega))
  have hO := hO.chg hc_ (.inr (by omega))
  clear hc_
  by_cases hk0_ : k = 0
  case pos =>
    subst hk0_
    go_upto_region 5 with fail
    have hbq_ : Below w8.heap.size w8 w8.drew := (by repeat (first | exact Below.refl _ _ | apply blw_drew | apply blw_alloc | (refine blw_set ?_ (by first | omega | simp <;> omega) _) | refine below_chain ?_ (by assumption)))
    have ra0 := ra0.below hbq_; have ra1 := ra1.below hbq_; have ra2 := ra2.below hbq_; have ra3 := ra3.below hbq_; have hbw := hbw.trans (hbq_.mono hbw.size); have hzz := Nat.le_trans hzz hbq_.size
    have hs := hs.below hbq_
    have hd := hd.below hbq_
    have hE := hE.below hbq_
    have hVx := hVx.below hbq_
    have hVy := hVy.below hbq_
    have hN := hN.below hbq_
    have hO := hO.below hbq_
    clear hbq_
    refine @region_flowR ⟨w.heap.size, q + 1⟩ _ [(false, [(0, 1), (1, 1), (2, 1), (3, 1), (4, 5)]), (false, [(5, 5)]), (false, [(6, 5)]), (false, [(7, 4)])] _ _ _ _ _ (by kernel_rfl) ?_
    refine norm_K fun K hK => ?_
    change wpList _ _ _ [_, _, _, _, _] _ _
    generalize w8.drew = wq at *
    have hcq : Chg w.heap.size (q + 1) wq wq := Chg.refl
    have d0 := hd.c0; have d1 := hd.c1; have n0 := hN.c0; have n1 := hN.c1; have o0 := hO.c0; have o1 := hO.c1
    have hld := hd; have hln := hN; have hlo := hO
    have r00 := ra0.c0; have r01 := ra0.c1; have f00 := ra0.f 0; have f01 := ra0.f 1; have r10 := ra1.c0; have r11 := ra1.c1; have f10 := ra1.f0; have f11 := ra1.f1; have r20 := ra2.c0; have r21 := ra2.c1; have f20 := ra2.f0; have f21 := ra2.f1; have r30 := ra3.c0; have r31 := ra3.c1; have f30 := ra3.f0; have f31 := ra3.f1
    go_wp2_with fail
    first | (refine hK _ _ ⟨(chg_set (chg_set hcq (b := w.heap.size) (k := 0) (by omega) (by omega) (.int .i64 p)) (b := w.heap.size) (k := 1) (by omega) (by omega) (.slice av st.length cv)), ?_⟩; clear hK K) | refine ⟨(chg_set (chg_set hcq (b := w.heap.size) (k := 0) (by omega) (by omega) (.int .i64 p)) (b := w.heap.size) (k := 1) (by omega) (by omega) (.slice av st.length cv)), ?_⟩
    refine norm_K fun K hK => ?_
    change wpList _ _ _ [_] _ _
    go_wp2_with fail
    first | (refine hK _ _ ⟨(chg_set (chg_set (chg_set (chg_set hcq (b := w.heap.size) (k := 0) (by omega) (by omega) (.int .i64 p)) (b := w.heap.size) (k := 1) (by omega) (by omega) (.slice av st.length cv)) (b := w.heap.size + 1) (k := 0) (by omega) (by omega) (.slice ax X.dg.length cx)) (b := w.heap.size + 1) (k := 1) (by omega) (by omega) (.slice b_x X.up.length ex)), ?_⟩; clear hK K) | refine ⟨(chg_set (chg_set (chg_set (chg_set hcq (b := w.heap.size) (k := 0) (by omega) (by omega) (.int .i64 p)) (b := w.heap.size) (k := 1) (by omega) (by omega) (.slice av st.length cv)) (b := w.heap.size + 1) (k := 0) (by omega) (by omega) (.slice ax X.dg.length cx)) (b := w.heap.size + 1) (k := 1) (by omega) (by omega) (.slice b_x X.up.length ex)), ?_⟩
    refine norm_K fun K hK => ?_
    change wpList _ _ _ [_] _ _
    go_wp2_with fail
    first | (refine hK _ _ ⟨(chg_set (chg_set (chg_set (chg_set (chg_set (chg_set hcq (b := w.heap.size) (k := 0) (by omega) (by omega) (.int .i64 p)) (b := w.heap.size) (k := 1) (by omega) (by omega) (.slice av st.length cv)) (b := w.heap.size + 1) (k := 0) (by omega) (by omega) (.slice ax X.dg.length cx)) (b := w.heap.size + 1) (k := 1) (by omega) (by omega) (.slice b_x X.up.length ex)) (b := w.heap.size + 1 + 1) (k := 0) (by omega) (by omega) (.slice ay Y.dg.length cy)) (b := w.heap.size + 1 + 1) (k := 1) (by omega) (by omega) (.slice b_y Y.up.length ey)), ?_⟩; clear hK K) | refine ⟨(chg_set (chg_set (chg_set (chg_set (chg_set (chg_set hcq (b := w.heap.size) (k := 0) (by omega) (by omega) (.int .i64 p)) (b := w.heap.size) (k := 1) (by omega) (by omega) (.slice av st.length cv)) (b := w.heap.size + 1) (k := 0) (by omega) (by omega) (.slice ax X.dg.length cx)) (b := w.heap.size + 1) (k := 1) (by omega) (by omega) (.slice b_x X.up.length ex)) (b := w.heap.size + 1 + 1) (k := 0) (by omega) (by omega) (.slice ay Y.dg.length cy)) (b := w.heap.size + 1 + 1) (k := 1) (by omega) (by omega) (.slice b_y Y.up.length ey)), ?_⟩
    refine norm_K fun K hK => ?_
    change wpList _ _ _ [_] _ _
    go_wp2_with fail
    first | (refine hK _ _ ⟨⟨rfl, ?_⟩, ?_⟩; clear hK K) | refine ⟨⟨rfl, ?_⟩, ?_⟩
    · repeat' (first | exact trivial | exact ⟨_, rfl, (show M < w.heap.size ∨ q + 1 ≤ M by omega), _, _, _, hld⟩ | exact ⟨_, rfl, (show M + 1 < w.heap.size ∨ q + 1 ≤ M + 1 by omega), _, _, _, hln⟩ | exact ⟨_, rfl, (show M + 1 + 1 < w.heap.size ∨ q + 1 ≤ M + 1 + 1 by omega), _, _, _, hlo⟩ | refine And.intro ?_ ?_)
    go_wp2_with fail
    have hCF := (chg_set (chg_set (chg_set (chg_set (chg_set (chg_set (chg_set (chg_set hcq (b := w.heap.size) (k := 0) (by omega) (by omega) (.int .i64 p)) (b := w.heap.size) (k := 1) (by omega) (by omega) (.slice av st.length cv)) (b := w.heap.size + 1) (k := 0) (by omega) (by omega) (.slice ax X.dg.length cx)) (b := w.heap.size + 1) (k := 1) (by omega) (by omega) (.slice b_x X.up.length ex)) (b := w.heap.size + 1 + 1) (k := 0) (by omega) (by omega) (.slice ay Y.dg.length cy)) (b := w.heap.size + 1 + 1) (k := 1) (by omega) (by omega) (.slice b_y Y.up.length ey)) (b := w.heap.size + 1 + 1 + 1) (k := 0) (by omega) (by omega) (.slice ax X.dg.length cx)) (b := w.heap.size + 1 + 1 + 1) (k := 1) (by omega) (by omega) (.slice b_x X.up.length ex))
    refine bodyPost_ret (v := .tuple #[.agg #[.int .i64 p, .slice av st.length cv], .agg #[.slice ax X.dg.length cx, .slice b_x X.up.length ex], .agg #[.slice ay Y.dg.length cy, .slice b_y Y.up.length ey], .agg #[.slice ax X.dg.length cx, .slice b_x X.up.length ex]]) (by simp [results, Tryz.results26, go_sem, r00, r01, r10, r11, r20, r21, r30, r31]) rfl ?_
    exact ⟨p, _, _, _, _, st, X, Y, X, rfl, hp1, hp2, hl5, (hE.chg hCF (by omega)).more (by omega), (hVx.chg hCF (by omega)).more (by omega), (hVy.chg hCF (by omega)).more (by omega), (hVx.chg hCF (by omega)).more (by omega), hZx, hZy, hZx, ((below_bchg hbw hCF (Nat.le_refl _) hbw.size))⟩
  have hk0b : (k == 0) = false := by simpa using hk0_
  by_cases hk1_ : k = 1
  case neg =>
    have hk1b : (k == 1) = false := by simpa using hk1_
    go_upto_region 11 with fail
    have hbq_ : Below w8.heap.size w8 w8.drew := (by repeat (first | exact Below.refl _ _ | apply blw_drew | apply blw_alloc | (refine blw_set ?_ (by first | omega | simp <;> omega) _) | refine below_chain ?_ (by assumption)))
    have ra0 := ra0.below hbq_; have ra1 := ra1.below hbq_; have ra2 := ra2.below hbq_; have ra3 := ra3.below hbq_; have hbw := hbw.trans (hbq_.mono hbw.size); have hzz := Nat.le_trans hzz hbq_.size
    have hs := hs.below hbq_
    have hd := hd.below hbq_
    have hE := hE.below hbq_
    have hVx := hVx.below hbq_
    have hVy := hVy.below hbq_
    have hN := hN.below hbq_
    have hO := hO.below hbq_
    clear hbq_
    refine @region_flowR ⟨w.heap.size, q + 1⟩ _ [(false, [(0, 1), (1, 1), (2, 1), (3, 0), (4, 1), (5, 5)]), (false, [(6, 5)]), (false, [(7, 5)]), (false, [(8, 4), (9, 4)])] _ _ _ _ _ (by kernel_rfl) ?_
    refine norm_K fun K hK => ?_
    change wpList _ _ _ [_, _, _, _, _, _] _ _
    generalize w8.drew = wq at *
    have hcq : Chg w.heap.size (q + 1) wq wq := Chg.refl
    have d0 := hd.c0; have d1 := hd.c1; have n0 := hN.c0; have n1 := hN.c1; have o0 := hO.c0; have o1 := hO.c1
    have hld := hd; have hln := hN; have hlo := hO
    go_wp2_with fail
    refine (sdrawpt_c hs hE (by omega) hp1 hp2 hl5).mono ?_; rintro e w9 ⟨v_, Z, rfl, hVz, hZz, hs, hc_⟩
    have hVz := hVz.more (B' := q + 1) hzz
    have ra0 := ra0.chg hc_ (.inl (by omega)); have ra1 := ra1.chg hc_ (.inl (by omega)); have ra2 := ra2.chg hc_ (.inl (by omega)); have ra3 := ra3.chg hc_ (.inl (by omega)); have hbw := below_bchg hbw hc_ (by omega) hbw.size; have hzz := Nat.le_trans hzz hc_.size
    have hd := hd.chg hc_ (.inr (by omega))
    have hE := hE.chg hc_ (by omega)
    have hVx := hVx.chg hc_ (by omega)
    have hVy := hVy.chg hc_ (by omega)
    have hN := hN.chg hc_ (.inr (by omega))
    have hO := hO.chg hc_ (.inr (by omega))
    obtain ⟨az, cz, b_z, ez, rfl⟩ := hvr_shape hVz
    have hcq := hcq.trans (hc_.wide (lo' := w.heap.size) (hi' := q + 1) (by omega) (Nat.le_refl _))
    clear hc_
    have r00 := ra0.c0; have r01 := ra0.c1; have f00 := ra0.f 0; have f01 := ra0.f 1; have r10 := ra1.c0; have r11 := ra1.c1; have f10 := ra1.f0; have f11 := ra1.f1; have r20 := ra2.c0; have r21 := ra2.c1; have f20 := ra2.f0; have f21 := ra2.f1; have r30 := ra3.c0; have r31 := ra3.c1; have f30 := ra3.f0; have f31 := ra3.f1
    go_wp2_with fail
    first | (refine hK _ _ ⟨hcq, ?_⟩; clear hK K) | refine ⟨hcq, ?_⟩
    refine norm_K fun K hK => ?_
    change wpList _ _ _ [_] _ _
    go_wp2_with fail
    first | (refine hK _ _ ⟨(chg_set (chg_set hcq (b := w.heap.size) (k := 0) (by omega) (by omega) (.int .i64 p)) (b := w.heap.size) (k := 1) (by omega) (by omega) (.slice av st.length cv)), ?_⟩; clear hK K) | refine ⟨(chg_set (chg_set hcq (b := w.heap.size) (k := 0) (by omega) (by omega) (.int .i64 p)) (b := w.heap.size) (k := 1) (by omega) (by omega) (.slice av st.length cv)), ?_⟩
    refine norm_K fun K hK => ?_
    change wpList _ _ _ [_] _ _
    go_wp2_with fail
    first | (refine hK _ _ ⟨(chg_set (chg_set (chg_set (chg_set hcq (b := w.heap.size) (k := 0) (by omega) (by omega) (.int .i64 p)) (b := w.heap.size) (k := 1) (by omega) (by omega) (.slice av st.length cv)) (b := w.heap.size + 1) (k := 0) (by omega) (by omega) (.slice ax X.dg.length cx)) (b := w.heap.size + 1) (k := 1) (by omega) (by omega) (.slice b_x X.up.length ex)), ?_⟩; clear hK K) | refine ⟨(chg_set (chg_set (chg_set (chg_set hcq (b := w.heap.size) (k := 0) (by omega) (by omega) (.int .i64 p)) (b := w.heap.size) (k := 1) (by omega) (by omega) (.slice av st.length cv)) (b := w.heap.size + 1) (k := 0) (by omega) (by omega) (.slice ax X.dg.length cx)) (b := w.heap.size + 1) (k := 1) (by omega) (by omega) (.slice b_x X.up.length ex)), ?_⟩
    refine norm_K fun K hK => ?_
    change wpList _ _ _ [_, _] _ _
    go_wp2_with fail
    first | (refine hK _ _ ⟨⟨rfl, ?_⟩, ?_⟩; clear hK K) | refine ⟨⟨rfl, ?_⟩, ?_⟩
    · repeat' (first | exact trivial | exact ⟨_, rfl, (show M < w.heap.size ∨ q + 1 ≤ M by omega), _, _, _, hld⟩ | exact ⟨_, rfl, (show M + 1 < w.heap.size ∨ q + 1 ≤ M + 1 by omega), _, _, _, hln⟩ | exact ⟨_, rfl, (show M + 1 + 1 < w.heap.size ∨ q + 1 ≤ M + 1 + 1 by omega), _, _, _, hlo⟩ | refine And.intro ?_ ?_)
    go_wp2_with fail
    have hcq : Chg w.heap.size (q + 1) w9 w9 := Chg.refl
    have hCF := (chg_set (chg_set (chg_set (chg_set (chg_set (chg_set (chg_set (chg_set hcq (b := w.heap.size) (k := 0) (by omega) (by omega) (.int .i64 p)) (b := w.heap.size) (k := 1) (by omega) (by omega) (.slice av st.length cv)) (b := w.heap.size + 1) (k := 0) (by omega) (by omega) (.slice ax X.dg.length cx)) (b := w.heap.size + 1) (k := 1) (by omega) (by omega) (.slice b_x X.up.length ex)) (b := w.heap.size + 1 + 1) (k := 0) (by omega) (by omega) (.slice ay Y.dg.length cy)) (b := w.heap.size + 1 + 1) (k := 1) (by omega) (by omega) (.slice b_y Y.up.length ey)) (b := w.heap.size + 1 + 1 + 1) (k := 0) (by omega) (by omega) (.slice az Z.dg.length cz)) (b := w.heap.size + 1 + 1 + 1) (k := 1) (by omega) (by omega) (.slice b_z Z.up.length ez))
    refine bodyPost_ret (v := .tuple #[.agg #[.int .i64 p, .slice av st.length cv], .agg #[.slice ax X.dg.length cx, .slice b_x X.up.length ex], .agg #[.slice ay Y.dg.length cy, .slice b_y Y.up.length ey], .agg #[.slice az Z.dg.length cz, .slice b_z Z.up.length ez]]) (by simp [results, Tryz.results26, go_sem, r00, r01, r10, r11, r20, r21, r30, r31]) rfl ?_
    exact ⟨p, _, _, _, _, st, X, Y, Z, rfl, hp1, hp2, hl5, (hE.chg hCF (by omega)).more (by omega), (hVx.chg hCF (by omega)).more (by omega), (hVy.chg hCF (by omega)).more (by omega), (hVz.chg hCF (by omega)).more (by omega), hZx, hZy, hZz, ((below_bchg hbw hCF (Nat.le_refl _) hbw.size))⟩
  subst hk1_
  have d0 := hd.c0; have d1 := hd.c1; have n0 := hN.c0; have n1 := hN.c1; have o0 := hO.c0; have o1 := hO.c1
  go_wp2_with fail
  have hb_ : Below w8.heap.size w8 (w8.alloc (.cells #[.slice ax X.dg.length cx, .slice b_x X.up.length ex, .slice ay Y.dg.length cy, .slice b_y Y.up.length ey] 31)) := (by repeat (first | exact Below.refl _ _ | apply blw_drew | apply blw_alloc | (refine blw_set ?_ (by first | omega | simp <;> omega) _) | refine below_chain ?_ (by assumption)))
  have hl4 := heap_alloc_new w8 (.cells #[.slice ax X.dg.length cx, .slice b_x X.up.length ex, .slice ay Y.dg.length cy, .slice b_y Y.up.length ey] 31)
  have ra0 := ra0.below hb_; have ra1 := ra1.below hb_; have ra2 := ra2.below hb_; have ra3 := ra3.below hb_; have hbw := hbw.trans (hb_.mono hbw.size); have hzz := Nat.le_trans hzz hb_.size
  have hs := hs.below hb_
  have hd := hd.below hb_
  have hE := hE.below hb_
  have hVx := hVx.below hb_
  have hVy := hVy.below hb_
  have hN := hN.below hb_
  have hO := hO.below hb_
  have hcp := sl17p_c (p := p) hE.1 (by omega) (Lh.two (c := 2) hVx.hv (cell4 hl4 rfl) (cell4 hl4 rfl) hVy.hv (cell4 hl4 rfl) (cell4 hl4 rfl)) (by simp [hZx, hZy]) (by simp)
  obtain ⟨W9, hW_⟩ : ∃ x, x = (w8.alloc (.cells #[.slice ax X.dg.length cx, .slice b_x X.up.length ex, .slice ay Y.dg.length cy, .slice b_y Y.up.length ey] 31)) := ⟨_, rfl⟩
  rw [← hW_] at hb_ hcp hbw hzz ra0 ra1 ra2 ra3 hs hd hE hVx hVy hN hO ⊢
  clear hW_ hb_ hl4
  refine hcp.mono ?_; rintro e w10 ⟨rfl, hb_⟩
  clear hcp
  have ra0 := ra0.below hb_; have ra1 := ra1.below hb_; have ra2 := ra2.below hb_; have ra3 := ra3.below hb_; have hbw := hbw.trans (hb_.mono hbw.size); have hzz := Nat.le_trans hzz hb_.size
  have hs := hs.below hb_
  have hd := hd.below hb_
  have hE := hE.below hb_
  have hVx := hVx.below hb_
  have hVy := hVy.below hb_
  have hN := hN.below hb_
  have hO := hO.below hb_
  clear hb_
  have d0 := hd.c0; have d1 := hd.c1; have n0 := hN.c0; have n1 := hN.c1; have o0 := hO.c0; have o1 := hO.c1
  by_cases hpt : ptsH p st [X, Y] = 0
  case neg =>
    have hptb : (ptsH p st [X, Y] == 0) = false := by simpa using hpt
    go_upto_region 11 with fail
    have hbq_ : Below w10.heap.size w10 w10.drew := (by repeat (first | exact Below.refl _ _ | apply blw_drew | apply blw_alloc | (refine blw_set ?_ (by first | omega | simp <;> omega) _) | refine below_chain ?_ (by assumption)))
    have ra0 := ra0.below hbq_; have ra1 := ra1.below hbq_; have ra2 := ra2.below hbq_; have ra3 := ra3.below hbq_; have hbw := hbw.trans (hbq_.mono hbw.size); have hzz := Nat.le_trans hzz hbq_.size
    have hs := hs.below hbq_
    have hd := hd.below hbq_
    have hE := hE.below hbq_
    have hVx := hVx.below hbq_
    have hVy := hVy.below hbq_
    have hN := hN.below hbq_
    have hO := hO.below hbq_
    clear hbq_
    refine @region_flowR ⟨w.heap.size, q + 1⟩ _ [(false, [(0, 1), (1, 1), (2, 1), (3, 0), (4, 1), (5, 5)]), (false, [(6, 5)]), (false, [(7, 5)]), (false, [(8, 4), (9, 4)])] _ _ _ _ _ (by kernel_rfl) ?_
    refine norm_K fun K hK => ?_
    change wpList _ _ _ [_, _, _, _, _, _] _ _
    generalize w10.drew = wq at *
    have hcq : Chg w.heap.size (q + 1) wq wq := Chg.refl
    have d0 := hd.c0; have d1 := hd.c1; have n0 := hN.c0; have n1 := hN.c1; have o0 := hO.c0; have o1 := hO.c1
    have hld := hd; have hln := hN; have hlo := hO
    go_wp2_with fail
    refine (sdrawpt_c hs hE (by omega) hp1 hp2 hl5).mono ?_; rintro e w9 ⟨v_, Z, rfl, hVz, hZz, hs, hc_⟩
    have hVz := hVz.more (B' := q + 1) hzz
    have ra0 := ra0.chg hc_ (.inl (by omega)); have ra1 := ra1.chg hc_ (.inl (by omega)); have ra2 := ra2.chg hc_ (.inl (by omega)); have ra3 := ra3.chg hc_ (.inl (by omega)); have hbw := below_bchg hbw hc_ (by omega) hbw.size; have hzz := Nat.le_trans hzz hc_.size
    have hd := hd.chg hc_ (.inr (by omega))
    have hE := hE.chg hc_ (by omega)
    have hVx := hVx.chg hc_ (by omega)
    have hVy := hVy.chg hc_ (by omega)
    have hN := hN.chg hc_ (.inr (by omega))
    have hO := hO.chg hc_ (.inr (by omega))
    obtain ⟨az, cz, b_z, ez, rfl⟩ := hvr_shape hVz
    have hcq := hcq.trans (hc_.wide (lo' := w.heap.size) (hi' := q + 1) (by omega) (Nat.le_refl _))
    clear hc_
    have r00 := ra0.c0; have r01 := ra0.c1; have f00 := ra0.f 0; have f01 := ra0.f 1; have r10 := ra1.c0; have r11 := ra1.c1; have f10 := ra1.f0; have f11 := ra1.f1; have r20 := ra2.c0; have r21 := ra2.c1; have f20 := ra2.f0; have f21 := ra2.f1; have r30 := ra3.c0; have r31 := ra3.c1; have f30 := ra3.f0; have f31 := ra3.f1
    go_wp2_with fail
    first | (refine hK _ _ ⟨hcq, ?_⟩; clear hK K) | refine ⟨hcq, ?_⟩
    refine norm_K fun K hK => ?_
    change wpList _ _ _ [_] _ _
    go_wp2_with fail
    first | (refine hK _ _ ⟨(chg_set (chg_set hcq (b := w.heap.size) (k := 0) (by omega) (by omega) (.int .i64 p)) (b := w.heap.size) (k := 1) (by omega) (by omega) (.slice av st.length cv)), ?_⟩; clear hK K) | refine ⟨(chg_set (chg_set hcq (b := w.heap.size) (k := 0) (by omega) (by omega) (.int .i64 p)) (b := w.heap.size) (k := 1) (by omega) (by omega) (.slice av st.length cv)), ?_⟩
    refine norm_K fun K hK => ?_
    change wpList _ _ _ [_] _ _
    go_wp2_with fail
    first | (refine hK _ _ ⟨(chg_set (chg_set (chg_set (chg_set hcq (b := w.heap.size) (k := 0) (by omega) (by omega) (.int .i64 p)) (b := w.heap.size) (k := 1) (by omega) (by omega) (.slice av st.length cv)) (b := w.heap.size + 1) (k := 0) (by omega) (by omega) (.slice ax X.dg.length cx)) (b := w.heap.size + 1) (k := 1) (by omega) (by omega) (.slice b_x X.up.length ex)), ?_⟩; clear hK K) | refine ⟨(chg_set (chg_set (chg_set (chg_set hcq (b := w.heap.size) (k := 0) (by omega) (by omega) (.int .i64 p)) (b := w.heap.size) (k := 1) (by omega) (by omega) (.slice av st.length cv)) (b := w.heap.size + 1) (k := 0) (by omega) (by omega) (.slice ax X.dg.length cx)) (b := w.heap.size + 1) (k := 1) (by omega) (by omega) (.slice b_x X.up.length ex)), ?_⟩
    refine norm_K fun K hK => ?_
    change wpList _ _ _ [_, _] _ _
    go_wp2_with fail
    first | (refine hK _ _ ⟨⟨rfl, ?_⟩, ?_⟩; clear hK K) | refine ⟨⟨rfl, ?_⟩, ?_⟩
    · repeat' (first | exact trivial | exact ⟨_, rfl, (show M < w.heap.size ∨ q + 1 ≤ M by omega), _, _, _, hld⟩ | exact ⟨_, rfl, (show M + 1 < w.heap.size ∨ q + 1 ≤ M + 1 by omega), _, _, _, hln⟩ | exact ⟨_, rfl, (show M + 1 + 1 < w.heap.size ∨ q + 1 ≤ M + 1 + 1 by omega), _, _, _, hlo⟩ | refine And.intro ?_ ?_)
    go_wp2_with fail
    have hcq : Chg w.heap.size (q + 1) w9 w9 := Chg.refl
    have hCF := (chg_set (chg_set (chg_set (chg_set (chg_set (chg_set (chg_set (chg_set hcq (b := w.heap.size) (k := 0) (by omega) (by omega) (.int .i64 p)) (b := w.heap.size) (k := 1) (by omega) (by omega) (.slice av st.length cv)) (b := w.heap.size + 1) (k := 0) (by omega) (by omega) (.slice ax X.dg.length cx)) (b := w.heap.size + 1) (k := 1) (by omega) (by omega) (.slice b_x X.up.length ex)) (b := w.heap.size + 1 + 1) (k := 0) (by omega) (by omega) (.slice ay Y.dg.length cy)) (b := w.heap.size + 1 + 1) (k := 1) (by omega) (by omega) (.slice b_y Y.up.length ey)) (b := w.heap.size + 1 + 1 + 1) (k := 0) (by omega) (by omega) (.slice az Z.dg.length cz)) (b := w.heap.size + 1 + 1 + 1) (k := 1) (by omega) (by omega) (.slice b_z Z.up.length ez))
    refine bodyPost_ret (v := .tuple #[.agg #[.int .i64 p, .slice av st.length cv], .agg #[.slice ax X.dg.length cx, .slice b_x X.up.length ex], .agg #[.slice ay Y.dg.length cy, .slice b_y Y.up.length ey], .agg #[.slice az Z.dg.length cz, .slice b_z Z.up.length ez]]) (by simp [results, Tryz.results26, go_sem, r00, r01, r10, r11, r20, r21, r30, r31]) rfl ?_
    exact ⟨p, _, _, _, _, st, X, Y, Z, rfl, hp1, hp2, hl5, (hE.chg hCF (by omega)).more (by omega), (hVx.chg hCF (by omega)).more (by omega), (hVy.chg hCF (by omega)).more (by omega), (hVz.chg hCF (by omega)).more (by omega), hZx, hZy, hZz, ((below_bchg hbw hCF (Nat.le_refl _) hbw.size))⟩
  obtain ⟨⟨hdk, _⟩, _⟩ := ptsH_pos hpt
  rw [hpt]
  go_upto_region 8 with fail
  have hbq_ : Below w10.heap.size w10 w10.drew := (by repeat (first | exact Below.refl _ _ | apply blw_drew | apply blw_alloc | (refine blw_set ?_ (by first | omega | simp <;> omega) _) | refine below_chain ?_ (by assumption)))
  have ra0 := ra0.below hbq_; have ra1 := ra1.below hbq_; have ra2 := ra2.below hbq_; have ra3 := ra3.below hbq_; have hbw := hbw.trans (hbq_.mono hbw.size); have hzz := Nat.le_trans hzz hbq_.size
  have hs := hs.below hbq_
  have hd := hd.below hbq_
  have hE := hE.below hbq_
  have hVx := hVx.below hbq_
  have hVy := hVy.below hbq_
  have hN := hN.below hbq_
  have hO := hO.below hbq_
  clear hbq_
  refine @region_flowR ⟨q, q + 1⟩ _ [(false, [(0, 0), (1, 1), (3, 0), (4, 1), (2, 5)]), (false, [(5, 4), (6, 0), (7, 0)])] _ _ _ _ _ (by kernel_rfl) ?_
  refine norm_K fun K hK => ?_
  change wpList _ _ _ [_, _, _, _, _] _ _
  generalize w10.drew = wq at *
  have hcq : Chg w.heap.size (q + 1) wq wq := Chg.refl
  clear hcq
  have hld := hd
  have d0 := hd.c0; have d1 := hd.c1; have n0 := hN.c0; have n1 := hN.c1; have o0 := hO.c0; have o1 := hO.c1
  go_wp2_with fail
  refine (sdrawel_c hs hp1 hp2 hl5).mono ?_; rintro e w11 ⟨u_, xs, rfl, hla, hEa, hs, hc_⟩
  have hEa := hEa.more (B' := q + 1) hzz
  have ra0 := ra0.chg hc_ (.inl (by omega)); have ra1 := ra1.chg hc_ (.inl (by omega)); have ra2 := ra2.chg hc_ (.inl (by omega)); have ra3 := ra3.chg hc_ (.inl (by omega)); have hbw := below_bchg hbw hc_ (by omega) hbw.size; have hzz := Nat.le_trans hzz hc_.size
  have hd := hd.chg hc_ (.inr (by omega))
  have hE := hE.chg hc_ (by omega)
  have hVx := hVx.chg hc_ (by omega)
  have hVy := hVy.chg hc_ (by omega)
  have hN := hN.chg hc_ (.inr (by omega))
  have hO := hO.chg hc_ (.inr (by omega))
  obtain ⟨aa, ca, rfl⟩ := hEa.shape
  go_wp2_with fail
  first | (refine hK _ _ ⟨hc_, ?_⟩; clear hK K) | refine ⟨hc_, ?_⟩
  refine norm_K fun K hK => ?_
  change wpList _ _ _ [_, _, _] _ _
  clear hc_
  go_wp2_with fail
  refine (sdrawel_c hs hp1 hp2 hl5).mono ?_; rintro e w12 ⟨u_, ys, rfl, hlb, hEb, hs, hc_⟩
  have hEb := hEb.more (B' := q + 1) hzz
  have ra0 := ra0.chg hc_ (.inl (by omega)); have ra1 := ra1.chg hc_ (.inl (by omega)); have ra2 := ra2.chg hc_ (.inl (by omega)); have ra3 := ra3.chg hc_ (.inl (by omega)); have hbw := below_bchg hbw hc_ (by omega) hbw.size; have hzz := Nat.le_trans hzz hc_.size
  have hd := hd.chg hc_ (.inr (by omega))
  have hE := hE.chg hc_ (by omega)
  have hVx := hVx.chg hc_ (by omega)
  have hVy := hVy.chg hc_ (by omega)
  have hN := hN.chg hc_ (.inr (by omega))
  have hO := hO.chg hc_ (.inr (by omega))
  have hEa := hEa.chg hc_ (by omega)
  obtain ⟨ab, cb, rfl⟩ := hEb.shape
  clear hc_
  go_wp2_with fail
  first | (refine hK _ _ ⟨⟨rfl, ?_⟩, ?_⟩; clear hK K) | refine ⟨⟨rfl, ?_⟩, ?_⟩
  · repeat' (first | exact trivial | exact ⟨_, rfl, (show M < q ∨ q + 1 ≤ M by omega), _, _, _, hld⟩ | refine And.intro ?_ ?_)
  have hl3 := hdk.hl; have hp3 := hdk.hp.lo; have hsz := sz_le hdk
  have d0 := hd.c0; have d1 := hd.c1; have n0 := hN.c0; have n1 := hN.c1; have o0 := hO.c0; have o1 := hO.c1
  go_wp2_with fail
  refine (selem_c hE.1 hEa.1 (by omega) (by omega) hp1 (by omega)).mono ?_; rintro e w13 ⟨rfl, hb_⟩
  have ra0 := ra0.below hb_; have ra1 := ra1.below hb_; have ra2 := ra2.below hb_; have ra3 := ra3.below hb_; have hbw := hbw.trans (hb_.mono hbw.size); have hzz := Nat.le_trans hzz hb_.size
  have hs := hs.below hb_
  have hd := hd.below hb_
  have hE := hE.below hb_
  have hVx := hVx.below hb_
  have hVy := hVy.below hb_
  have hN := hN.below hb_
  have hO := hO.below hb_
  have hEa := hEa.below hb_
  have hEb := hEb.below hb_
  clear hb_
  have d0 := hd.c0; have d1 := hd.c1; have n0 := hN.c0; have n1 := hN.c1; have o0 := hO.c0; have o1 := hO.c1
  cases hE1 : isE p (sz st.length) xs with
  | false =>
    go_upto_region 11 with fail
    have hbq_ : Below w13.heap.size w13 w13.drew := (by repeat (first | exact Below.refl _ _ | apply blw_drew | apply blw_alloc | (refine blw_set ?_ (by first | omega | simp <;> omega) _) | refine below_chain ?_ (by assumption)))
    have ra0 := ra0.below hbq_; have ra1 := ra1.below hbq_; have ra2 := ra2.below hbq_; have ra3 := ra3.below hbq_; have hbw := hbw.trans (hbq_.mono hbw.size); have hzz := Nat.le_trans hzz hbq_.size
    have hs := hs.below hbq_
    have hd := hd.below hbq_
    have hE := hE.below hbq_
    have hVx := hVx.below hbq_
    have hVy := hVy.below hbq_
    have hN := hN.below hbq_
    have hO := hO.below hbq_
    clear hbq_
    refine @region_flowR ⟨w.heap.size, q + 1⟩ _ [(false, [(0, 1), (1, 1), (2, 1), (3, 0), (4, 1), (5, 5)]), (false, [(6, 5)]), (false, [(7, 5)]), (false, [(8, 4), (9, 4)])] _ _ _ _ _ (by kernel_rfl) ?_
    refine norm_K fun K hK => ?_
    change wpList _ _ _ [_, _, _, _, _, _] _ _
    generalize w13.drew = wq at *
    have hcq : Chg w.heap.size (q + 1) wq wq := Chg.refl
    have d0 := hd.c0; have d1 := hd.c1; have n0 := hN.c0; have n1 := hN.c1; have o0 := hO.c0; have o1 := hO.c1
    have hld := hd; have hln := hN; have hlo := hO
    go_wp2_with fail
    refine (sdrawpt_c hs hE (by omega) hp1 hp2 hl5).mono ?_; rintro e w9 ⟨v_, Z, rfl, hVz, hZz, hs, hc_⟩
    have hVz := hVz.more (B' := q + 1) hzz
    have ra0 := ra0.chg hc_ (.inl (by omega)); have ra1 := ra1.chg hc_ (.inl (by omega)); have ra2 := ra2.chg hc_ (.inl (by omega)); have ra3 := ra3.chg hc_ (.inl (by omega)); have hbw := below_bchg hbw hc_ (by omega) hbw.size; have hzz := Nat.le_trans hzz hc_.size
    have hd := hd.chg hc_ (.inr (by omega))
    have hE := hE.chg hc_ (by omega)
    have hVx := hVx.chg hc_ (by omega)
    have hVy := hVy.chg hc_ (by omega)
    have hN := hN.chg hc_ (.inr (by omega))
    have hO := hO.chg hc_ (.inr (by omega))
    obtain ⟨az, cz, b_z, ez, rfl⟩ := hvr_shape hVz
    have hcq := hcq.trans (hc_.wide (lo' := w.heap.size) (hi' := q + 1) (by omega) (Nat.le_refl _))
    clear hc_
    have r00 := ra0.c0; have r01 := ra0.c1; have f00 := ra0.f 0; have f01 := ra0.f 1; have r10 := ra1.c0; have r11 := ra1.c1; have f10 := ra1.f0; have f11 := ra1.f1; have r20 := ra2.c0; have r21 := ra2.c1; have f20 := ra2.f0; have f21 := ra2.f1; have r30 := ra3.c0; have r31 := ra3.c1; have f30 := ra3.f0; have f31 := ra3.f1
    go_wp2_with fail
    first | (refine hK _ _ ⟨hcq, ?_⟩; clear hK K) | refine ⟨hcq, ?_⟩
    refine norm_K fun K hK => ?_
    change wpList _ _ _ [_] _ _
    go_wp2_with fail
    first | (refine hK _ _ ⟨(chg_set (chg_set hcq (b := w.heap.size) (k := 0) (by omega) (by omega) (.int .i64 p)) (b := w.heap.size) (k := 1) (by omega) (by omega) (.slice av st.length cv)), ?_⟩; clear hK K) | refine ⟨(chg_set (chg_set hcq (b := w.heap.size) (k := 0) (by omega) (by omega) (.int .i64 p)) (b := w.heap.size) (k := 1) (by omega) (by omega) (.slice av st.length cv)), ?_⟩
    refine norm_K fun K hK => ?_
    change wpList _ _ _ [_] _ _
    go_wp2_with fail
    first | (refine hK _ _ ⟨(chg_set (chg_set (chg_set (chg_set hcq (b := w.heap.size) (k := 0) (by omega) (by omega) (.int .i64 p)) (b := w.heap.size) (k := 1) (by omega) (by omega) (.slice av st.length cv)) (b := w.heap.size + 1) (k := 0) (by omega) (by omega) (.slice ax X.dg.length cx)) (b := w.heap.size + 1) (k := 1) (by omega) (by omega) (.slice b_x X.up.length ex)), ?_⟩; clear hK K) | refine ⟨(chg_set (chg_set (chg_set (chg_set hcq (b := w.heap.size) (k := 0) (by omega) (by omega) (.int .i64 p)) (b := w.heap.size) (k := 1) (by omega) (by omega) (.slice av st.length cv)) (b := w.heap.size + 1) (k := 0) (by omega) (by omega) (.slice ax X.dg.length cx)) (b := w.heap.size + 1) (k := 1) (by omega) (by omega) (.slice b_x X.up.length ex)), ?_⟩
    refine norm_K fun K hK => ?_
    change wpList _ _ _ [_, _] _ _
    go_wp2_with fail
    first | (refine hK _ _ ⟨⟨rfl, ?_⟩, ?_⟩; clear hK K) | refine ⟨⟨rfl, ?_⟩, ?_⟩
    · repeat' (first | exact trivial | exact ⟨_, rfl, (show M < w.heap.size ∨ q + 1 ≤ M by omega), _, _, _, hld⟩ | exact ⟨_, rfl, (show M + 1 < w.heap.size ∨ q + 1 ≤ M + 1 by omega), _, _, _, hln⟩ | exact ⟨_, rfl, (show M + 1 + 1 < w.heap.size ∨ q + 1 ≤ M + 1 + 1 by omega), _, _, _, hlo⟩ | refine And.intro ?_ ?_)
    go_wp2_with fail
    have hcq : Chg w.heap.size (q + 1) w9 w9 := Chg.refl
    have hCF := (chg_set (chg_set (chg_set (chg_set (chg_set (chg_set (chg_set (chg_set hcq (b := w.heap.size) (k := 0) (by omega) (by omega) (.int .i64 p)) (b := w.heap.size) (k := 1) (by omega) (by omega) (.slice av st.length cv)) (b := w.heap.size + 1) (k := 0) (by omega) (by omega) (.slice ax X.dg.length cx)) (b := w.heap.size + 1) (k := 1) (by omega) (by omega) (.slice b_x X.up.length ex)) (b := w.heap.size + 1 + 1) (k := 0) (by omega) (by omega) (.slice ay Y.dg.length cy)) (b := w.heap.size + 1 + 1) (k := 1) (by omega) (by omega) (.slice b_y Y.up.length ey)) (b := w.heap.size + 1 + 1 + 1) (k := 0) (by omega) (by omega) (.slice az Z.dg.length cz)) (b := w.heap.size + 1 + 1 + 1) (k := 1) (by omega) (by omega) (.slice b_z Z.up.length ez))
    refine bodyPost_ret (v := .tuple #[.agg #[.int .i64 p, .slice av st.length cv], .agg #[.slice ax X.dg.length cx, .slice b_x X.up.length ex], .agg #[.slice ay Y.dg.length cy, .slice b_y Y.up.length ey], .agg #[.slice az Z.dg.length cz, .slice b_z Z.up.length ez]]) (by simp [results, Tryz.results26, go_sem, r00, r01, r10, r11, r20, r21, r30, r31]) rfl ?_
    exact ⟨p, _, _, _, _, st, X, Y, Z, rfl, hp1, hp2, hl5, (hE.chg hCF (by omega)).more (by omega), (hVx.chg hCF (by omega)).more (by omega), (hVy.chg hCF (by omega)).more (by omega), (hVz.chg hCF (by omega)).more (by omega), hZx, hZy, hZz, ((below_bchg hbw hCF (Nat.le_refl _) hbw.size))⟩
  | true =>
    go_wp2_with fail
    refine (selem_c hE.1 hEb.1 (by omega) (by omega) hp1 (by omega)).mono ?_; rintro e w14 ⟨rfl, hb_⟩
    have ra0 := ra0.below hb_; have ra1 := ra1.below hb_; have ra2 := ra2.below hb_; have ra3 := ra3.below hb_; have hbw := hbw.trans (hb_.mono hbw.size); have hzz := Nat.le_trans hzz hb_.size
    have hs := hs.below hb_
    have hd := hd.below hb_
    have hE := hE.below hb_
    have hVx := hVx.below hb_
    have hVy := hVy.below hb_
    have hN := hN.below hb_
    have hO := hO.below hb_
    have hEa := hEa.below hb_
    have hEb := hEb.below hb_
    clear hb_
    have d0 := hd.c0; have d1 := hd.c1; have n0 := hN.c0; have n1 := hN.c1; have o0 := hO.c0; have o1 := hO.c1
    cases hE2 : isE p (sz st.length) ys with
    | false =>
      go_upto_region 11 with fail
      have hbq_ : Below w14.heap.size w14 w14.drew := (by repeat (first | exact Below.refl _ _ | apply blw_drew | apply blw_alloc | (refine blw_set ?_ (by first | omega | simp <;> omega) _) | refine below_chain ?_ (by assumption)))
      have ra0 := ra0.below hbq_; have ra1 := ra1.below hbq_; have ra2 := ra2.below hbq_; have ra3 := ra3.below hbq_; have hbw := hbw.trans (hbq_.mono hbw.size); have hzz := Nat.le_trans hzz hbq_.size
      have hs := hs.below hbq_
      have hd := hd.below hbq_
      have hE := hE.below hbq_
      have hVx := hVx.below hbq_
      have hVy := hVy.below hbq_
      have hN := hN.below hbq_
      have hO := hO.below hbq_
      clear hbq_
      refine @region_flowR ⟨w.heap.size, q + 1⟩ _ [(false, [(0, 1), (1, 1), (2, 1), (3, 0), (4, 1), (5, 5)]), (false, [(6, 5)]), (false, [(7, 5)]), (false, [(8, 4), (9, 4)])] _ _ _ _ _ (by kernel_rfl) ?_
      refine norm_K fun K hK => ?_
      change wpList _ _ _ [_, _, _, _, _, _] _ _
      generalize w14.drew = wq at *
      have hcq : Chg w.heap.size (q + 1) wq wq := Chg.refl
      have d0 := hd.c0; have d1 := hd.c1; have n0 := hN.c0; have n1 := hN.c1; have o0 := hO.c0; have o1 := hO.c1
      have hld := hd; have hln := hN; have hlo := hO
      go_wp2_with fail
      refine (sdrawpt_c hs hE (by omega) hp1 hp2 hl5).mono ?_; rintro e w9 ⟨v_, Z, rfl, hVz, hZz, hs, hc_⟩
      have hVz := hVz.more (B' := q + 1) hzz
      have ra0 := ra0.chg hc_ (.inl (by omega)); have ra1 := ra1.chg hc_ (.inl (by omega)); have ra2 := ra2.chg hc_ (.inl (by omega)); have ra3 := ra3.chg hc_ (.inl (by omega)); have hbw := below_bchg hbw hc_ (by omega) hbw.size; have hzz := Nat.le_trans hzz hc_.size
      have hd := hd.chg hc_ (.inr (by omega))
      have hE := hE.chg hc_ (by omega)
      have hVx := hVx.chg hc_ (by omega)
      have hVy := hVy.chg hc_ (by omega)
      have hN := hN.chg hc_ (.inr (by omega))
      have hO := hO.chg hc_ (.inr (by omega))
      obtain ⟨az, cz, b_z, ez, rfl⟩ := hvr_shape hVz
      have hcq := hcq.trans (hc_.wide (lo' := w.heap.size) (hi' := q + 1) (by omega) (Nat.le_refl _))
      clear hc_
      have r00 := ra0.c0; have r01 := ra0.c1; have f00 := ra0.f 0; have f01 := ra0.f 1; have r10 := ra1.c0; have r11 := ra1.c1; have f10 := ra1.f0; have f11 := ra1.f1; have r20 := ra2.c0; have r21 := ra2.c1; have f20 := ra2.f0; have f21 := ra2.f1; have r30 := ra3.c0; have r31 := ra3.c1; have f30 := ra3.f0; have f31 := ra3.f1
      go_wp2_with fail
      first | (refine hK _ _ ⟨hcq, ?_⟩; clear hK K) | refine ⟨hcq, ?_⟩
      refine norm_K fun K hK => ?_
      change wpList _ _ _ [_] _ _
      go_wp2_with fail
      first | (refine hK _ _ ⟨(chg_set (chg_set hcq (b := w.heap.size) (k := 0) (by omega) (by omega) (.int .i64 p)) (b := w.heap.size) (k := 1) (by omega) (by omega) (.slice av st.length cv)), ?_⟩; clear hK K) | refine ⟨(chg_set (chg_set hcq (b := w.heap.size) (k := 0) (by omega) (by omega) (.int .i64 p)) (b := w.heap.size) (k := 1) (by omega) (by omega) (.slice av st.length cv)), ?_⟩
      refine norm_K fun K hK => ?_
      change wpList _ _ _ [_] _ _
      go_wp2_with fail
      first | (refine hK _ _ ⟨(chg_set (chg_set (chg_set (chg_set hcq (b := w.heap.size) (k := 0) (by omega) (by omega) (.int .i64 p)) (b := w.heap.size) (k := 1) (by omega) (by omega) (.slice av st.length cv)) (b := w.heap.size + 1) (k := 0) (by omega) (by omega) (.slice ax X.dg.length cx)) (b := w.heap.size + 1) (k := 1) (by omega) (by omega) (.slice b_x X.up.length ex)), ?_⟩; clear hK K) | refine ⟨(chg_set (chg_set (chg_set (chg_set hcq (b := w.heap.size) (k := 0) (by omega) (by omega) (.int .i64 p)) (b := w.heap.size) (k := 1) (by omega) (by omega) (.slice av st.length cv)) (b := w.heap.size + 1) (k := 0) (by omega) (by omega) (.slice ax X.dg.length cx)) (b := w.heap.size + 1) (k := 1) (by omega) (by omega) (.slice b_x X.up.length ex)), ?_⟩
      refine norm_K fun K hK => ?_
      change wpList _ _ _ [_, _] _ _
      go_wp2_with fail
      first | (refine hK _ _ ⟨⟨rfl, ?_⟩, ?_⟩; clear hK K) | refine ⟨⟨rfl, ?_⟩, ?_⟩
      · repeat' (first | exact trivial | exact ⟨_, rfl, (show M < w.heap.size ∨ q + 1 ≤ M by omega), _, _, _, hld⟩ | exact ⟨_, rfl, (show M + 1 < w.heap.size ∨ q + 1 ≤ M + 1 by omega), _, _, _, hln⟩ | exact ⟨_, rfl, (show M + 1 + 1 < w.heap.size ∨ q + 1 ≤ M + 1 + 1 by omega), _, _, _, hlo⟩ | refine And.intro ?_ ?_)
      go_wp2_with fail
      have hcq : Chg w.heap.size (q + 1) w9 w9 := Chg.refl
      have hCF := (chg_set (chg_set (chg_set (chg_set (chg_set (chg_set (chg_set (chg_set hcq (b := w.heap.size) (k := 0) (by omega) (by omega) (.int .i64 p)) (b := w.heap.size) (k := 1) (by omega) (by omega) (.slice av st.length cv)) (b := w.heap.size + 1) (k := 0) (by omega) (by omega) (.slice ax X.dg.length cx)) (b := w.heap.size + 1) (k := 1) (by omega) (by omega) (.slice b_x X.up.length ex)) (b := w.heap.size + 1 + 1) (k := 0) (by omega) (by omega) (.slice ay Y.dg.length cy)) (b := w.heap.size + 1 + 1) (k := 1) (by omega) (by omega) (.slice b_y Y.up.length ey)) (b := w.heap.size + 1 + 1 + 1) (k := 0) (by omega) (by omega) (.slice az Z.dg.length cz)) (b := w.heap.size + 1 + 1 + 1) (k := 1) (by omega) (by omega) (.slice b_z Z.up.length ez))
      refine bodyPost_ret (v := .tuple #[.agg #[.int .i64 p, .slice av st.length cv], .agg #[.slice ax X.dg.length cx, .slice b_x X.up.length ex], .agg #[.slice ay Y.dg.length cy, .slice b_y Y.up.length ey], .agg #[.slice az Z.dg.length cz, .slice b_z Z.up.length ez]]) (by simp [results, Tryz.results26, go_sem, r00, r01, r10, r11, r20, r21, r30, r31]) rfl ?_
      exact ⟨p, _, _, _, _, st, X, Y, Z, rfl, hp1, hp2, hl5, (hE.chg hCF (by omega)).more (by omega), (hVx.chg hCF (by omega)).more (by omega), (hVy.chg hCF (by omega)).more (by omega), (hVz.chg hCF (by omega)).more (by omega), hZx, hZy, hZz, ((below_bchg hbw hCF (Nat.le_refl _) hbw.size))⟩
    | true =>
      have HE := Lib.hid (And.intro (isE_iff.1 hE1) (isE_iff.1 hE2)); clear hE1 hE2
      have HA := Lib.hid (Ev.plus (k := 1) (show 1 ≤ p by omega) HE.out.1 HE.out.2)
      go_upto_region 10 with fail
      have hbq_ : Below w14.heap.size w14 w14.drew := (by repeat (first | exact Below.refl _ _ | apply blw_drew | apply blw_alloc | (refine blw_set ?_ (by first | omega | simp <;> omega) _) | refine below_chain ?_ (by assumption)))
      have ra0 := ra0.below hbq_; have ra1 := ra1.below hbq_; have ra2 := ra2.below hbq_; have ra3 := ra3.below hbq_; have hbw := hbw.trans (hbq_.mono hbw.size); have hzz := Nat.le_trans hzz hbq_.size
      have hs := hs.below hbq_
      have hd := hd.below hbq_
      have hE := hE.below hbq_
      have hVx := hVx.below hbq_
      have hVy := hVy.below hbq_
      have hN := hN.below hbq_
      have hO := hO.below hbq_
      have hEa := hEa.below hbq_
      have hEb := hEb.below hbq_
      clear hbq_
      refine @region_flowR ⟨w.heap.size, q + 1⟩ _ [(false, [(0, 1), (1, 1), (2, 0), (3, 0), (5, 1), (6, 0), (7, 0), (9, 1), (10, 0), (11, 1), (12, 0), (13, 0), (15, 0), (4, 5)]), (false, [(8, 5)]), (false, [(14, 5)]), (false, [(16, 5)]), (false, [(17, 4), (18, 4), (19, 4), (20, 4)])] _ _ _ _ _ (by kernel_rfl) ?_
      refine norm_K fun K hK => ?_
      change wpList _ _ _ [_, _, _, _, _, _, _, _, _, _, _, _, _, _] _ _
      generalize w14.drew = wq at *
      have hcq : Chg w.heap.size (q + 1) wq wq := Chg.refl
      have hld := hd
      have d0 := hd.c0; have d1 := hd.c1; have n0 := hN.c0; have n1 := hN.c1; have o0 := hO.c0; have o1 := hO.c1
      go_wp2_with fail
      refine (sl17_c hdk hE.1 hEa.1 hEb.1 HE.out.1 HE.out.2).mono ?_; rintro e w15 ⟨v_, rfl, hF, hb_⟩
      have hVf := hF.hvr.more (B' := q + 1) hzz
      have HIf := Lib.hid (isH_hszn (pointH_is (by omega) HE.out.1 HE.out.2) (by omega))
      generalize pointH p st xs ys = F1 at hVf HIf ⊢
      obtain ⟨af, cf, b_f, ef, rfl⟩ := hvr_shape hVf
      have ra0 := ra0.below hb_; have ra1 := ra1.below hb_; have ra2 := ra2.below hb_; have ra3 := ra3.below hb_; have hbw := hbw.trans (hb_.mono hbw.size); have hzz := Nat.le_trans hzz hb_.size
      have hs := hs.below hb_
      have hd := hd.below hb_
      have hE := hE.below hb_
      have hVx := hVx.below hb_
      have hVy := hVy.below hb_
      have hN := hN.below hb_
      have hO := hO.below hb_
      have hEa := hEa.below hb_
      have hEb := hEb.below hb_
      have hcq := hcq.bl (hb_.mono hcq.size); clear hb_ hF
      go_wp2_with fail
      first | (refine hK _ _ ⟨hcq, ?_⟩; clear hK K) | refine ⟨hcq, ?_⟩
      refine norm_K fun K hK => ?_
      change wpList _ _ _ [_] _ _
      go_wp2_with fail
      refine (sl17_c hdk hE.1 hEb.1 hEb.1 HE.out.2 HE.out.2).mono ?_; rintro e w16 ⟨v_, rfl, hF, hb_⟩
      have hVg := hF.hvr.more (B' := q + 1) hzz
      have HIg := Lib.hid (isH_hszn (pointH_is (by omega) HE.out.2 HE.out.2) (by omega))
      generalize pointH p st ys ys = F2 at hVg HIg ⊢
      obtain ⟨ag, cg, b_g, eg, rfl⟩ := hvr_shape hVg
      have ra0 := ra0.below hb_; have ra1 := ra1.below hb_; have ra2 := ra2.below hb_; have ra3 := ra3.below hb_; have hbw := hbw.trans (hb_.mono hbw.size); have hzz := Nat.le_trans hzz hb_.size
      have hs := hs.below hb_
      have hd := hd.below hb_
      have hE := hE.below hb_
      have hVx := hVx.below hb_
      have hVy := hVy.below hb_
      have hN := hN.below hb_
      have hO := hO.below hb_
      have hEa := hEa.below hb_
      have hEb := hEb.below hb_
      have hVf := hVf.below hb_
      have hcq := hcq.bl (hb_.mono hcq.size); clear hb_ hF
      go_wp2_with fail
      first | (refine hK _ _ ⟨hcq, ?_⟩; clear hK K) | refine ⟨hcq, ?_⟩
      refine norm_K fun K hK => ?_
      change wpList _ _ _ [_] _ _
      go_wp2_with fail
      refine (sadd_c (by omega) (by omega) hEa.1.1 hEb.1.1 (smE HE.out.1 (by omega)) (smE HE.out.2 (by omega)) (HE.out.2.1.trans HE.out.1.1.symm) (by omega)).mono ?_; rintro e w17 ⟨v_, rfl, hF, hb_⟩
      have hEc := hF.elr.more (B' := q + 1) hzz
      generalize plusL p xs ys 1 = zs at hEc HA ⊢
      obtain ⟨ac, cc, rfl⟩ := hEc.shape
      have ra0 := ra0.below hb_; have ra1 := ra1.below hb_; have ra2 := ra2.below hb_; have ra3 := ra3.below hb_; have hbw := hbw.trans (hb_.mono hbw.size); have hzz := Nat.le_trans hzz hb_.size
      have hs := hs.below hb_
      have hd := hd.below hb_
      have hE := hE.below hb_
      have hVx := hVx.below hb_
      have hVy := hVy.below hb_
      have hN := hN.below hb_
      have hO := hO.below hb_
      have hEa := hEa.below hb_
      have hEb := hEb.below hb_
      have hVf := hVf.below hb_
      have hVg := hVg.below hb_
      have hcq := hcq.bl (hb_.mono hcq.size); clear hb_ hF
      go_wp2_with fail
      first | (refine hK _ _ ⟨hcq, ?_⟩; clear hK K) | refine ⟨hcq, ?_⟩
      refine norm_K fun K hK => ?_
      change wpList _ _ _ [_] _ _
      go_wp2_with fail
      refine (sl17_c hdk hE.1 hEc.1 hEb.1 HA.out HE.out.2).mono ?_; rintro e w18 ⟨v_, rfl, hF, hb_⟩
      have hVh := hF.hvr.more (B' := q + 1) hzz
      have HIh := Lib.hid (isH_hszn (pointH_is (by omega) HA.out HE.out.2) (by omega))
      generalize pointH p st zs ys = F3 at hVh HIh ⊢
      obtain ⟨ah, ch, b_h, eh, rfl⟩ := hvr_shape hVh
      have ra0 := ra0.below hb_; have ra1 := ra1.below hb_; have ra2 := ra2.below hb_; have ra3 := ra3.below hb_; have hbw := hbw.trans (hb_.mono hbw.size); have hzz := Nat.le_trans hzz hb_.size
      have hs := hs.below hb_
      have hd := hd.below hb_
      have hE := hE.below hb_
      have hVx := hVx.below hb_
      have hVy := hVy.below hb_
      have hN := hN.below hb_
      have hO := hO.below hb_
      have hEa := hEa.below hb_
      have hEb := hEb.below hb_
      have hVf := hVf.below hb_
      have hVg := hVg.below hb_
      have hEc := hEc.below hb_
      have hcq := hcq.bl (hb_.mono hcq.size); clear hb_ hF
      go_wp2_with fail
      have r00 := ra0.c0; have r01 := ra0.c1; have f00 := ra0.f 0; have f01 := ra0.f 1; have r10 := ra1.c0; have r11 := ra1.c1; have f10 := ra1.f0; have f11 := ra1.f1; have r20 := ra2.c0; have r21 := ra2.c1; have f20 := ra2.f0; have f21 := ra2.f1; have r30 := ra3.c0; have r31 := ra3.c1; have f30 := ra3.f0; have f31 := ra3.f1
      first | (refine hK _ _ ⟨hcq, ?_⟩; clear hK K) | refine ⟨hcq, ?_⟩
      refine norm_K fun K hK => ?_
      change wpList _ _ _ [_, _, _, _] _ _
      go_wp2_with fail
      first | (refine hK _ _ ⟨⟨rfl, ?_⟩, ?_⟩; clear hK K) | refine ⟨⟨rfl, ?_⟩, ?_⟩
      · repeat' (first | exact trivial | exact ⟨_, rfl, (show M < w.heap.size ∨ q + 1 ≤ M by omega), _, _, _, hld⟩ | refine And.intro ?_ ?_)
      go_wp2_with fail
      have hcq : Chg w.heap.size (q + 1) w18 w18 := Chg.refl
      have hZf := HIf.out; have hZg := HIg.out; have hZh := HIh.out
      have hCF := (chg_set (chg_set (chg_set (chg_set (chg_set (chg_set (chg_set (chg_set hcq (b := w.heap.size) (k := 0) (by omega) (by omega) (.int .i64 p)) (b := w.heap.size) (k := 1) (by omega) (by omega) (.slice av st.length cv)) (b := w.heap.size + 1) (k := 0) (by omega) (by omega) (.slice af F1.dg.length cf)) (b := w.heap.size + 1) (k := 1) (by omega) (by omega) (.slice b_f F1.up.length ef)) (b := w.heap.size + 1 + 1) (k := 0) (by omega) (by omega) (.slice ag F2.dg.length cg)) (b := w.heap.size + 1 + 1) (k := 1) (by omega) (by omega) (.slice b_g F2.up.length eg)) (b := w.heap.size + 1 + 1 + 1) (k := 0) (by omega) (by omega) (.slice ah F3.dg.length ch)) (b := w.heap.size + 1 + 1 + 1) (k := 1) (by omega) (by omega) (.slice b_h F3.up.length eh))
      refine bodyPost_ret (v := .tuple #[.agg #[.int .i64 p, .slice av st.length cv], .agg #[.slice af F1.dg.length cf, .slice b_f F1.up.length ef], .agg #[.slice ag F2.dg.length cg, .slice b_g F2.up.length eg], .agg #[.slice ah F3.dg.length ch, .slice b_h F3.up.length eh]]) (by simp [results, Tryz.results26, go_sem, r00, r01, r10, r11, r20, r21, r30, r31]) rfl ?_
      exact ⟨p, _, _, _, _, st, F1, F2, F3, rfl, hp1, hp2, hl5, (hE.chg hCF (by omega)).more (by omega), (hVf.chg hCF (by omega)).more (by omega), (hVg.chg hCF (by omega)).more (by omega), (hVh.chg hCF (by omega)).more (by omega), hZf, hZg, hZh, ((below_bchg hbw hCF (Nat.le_refl _) hbw.size))⟩
end Go.Proofs.YtgcelfnjijhmkaaGreat
