/-
  The reference's check of a vector of the extension; lists of one or two vectors.
-/
import Derived.Test.YtklnpikkkekonaaConf
namespace Go.Proofs.Ytklnpikkkekonaa
open Go.RowKit

theorem Rl.two {w' : World} {v u : Value} {xs ys : List Int} {b c : Nat} (h : Sl w' v xs) (hc : w'.cell? ⟨b, 0, none⟩ = some v) (h2 : Sl w' u ys) (hc2 : w'.cell? ⟨b, 1, none⟩ = some u) : Rl w' (.slice (some ⟨b, 0, none⟩) 2 c) [xs, ys] := by
  refine ⟨_, c, rfl, .inr ⟨b, 0, rfl, fun j hj => ?_⟩⟩
  simp at hj
  rcases (show j = 0 ∨ j = 1 by omega) with rfl | rfl
  · exact ⟨v, hc, h⟩
  · exact ⟨u, hc2, h2⟩
theorem chkP_cons {p : Int} {sq x : List Int} {xss : List (List Int)} (h0 : chkP p sq [] [] = 0) (h : isV p (extL p sq) x = true) : chkP p sq xss [x] = chkP p sq xss [] := by
  obtain ⟨h1, h2, _⟩ := chkP_pos h0
  unfold chkP
  rw [h1]
  simp [h]
theorem chkP_bad {p : Int} {sq x : List Int} {xss : List (List Int)} (h0 : chkP p sq [] [] = 0) (h : isV p (extL p sq) x = false) : chkP p sq xss [x] = 2 := by
  obtain ⟨h1, h2, _⟩ := chkP_pos h0
  exact chkP_ran h1 (by omega) (.inr (by simp [h]))
theorem chkP_non {p : Int} {sq : List Int} {xss yss : List (List Int)} (h0 : chkP p sq [] [] ≠ 0) : chkP p sq xss yss = chkP p sq [] [] := by
  cases h1 : isSp p sq
  · rw [chkP_no h1, chkP_no h1]
  · by_cases h2 : 4 < sq.length
    · rw [chkP_lim h1 h2, chkP_lim h1 h2]
    · exact absurd (chkP_ok h1 h2 rfl rfl) h0
theorem smore_c {p0 : Int} {x0 x1 l : Value} {sq0 xs1 : List Int} {xss : List (List Int)} {w : World} (hx0 : Sl w x0 sq0) (hx1 : Sl w x1 xs1) (hl : Rl w l xss) (hm0 : sq0.length ≤ 1048576) (hm1 : xs1.length ≤ 1048576) (hm2 : xss.length ≤ 1048576) (hm3 : ∀ xs ∈ xss, xs.length ≤ 1048576) :
    Calls Try.prog 20 #[.agg #[.int .i64 p0, x0], x1, l] w fun e w' => e = .returned (.int .i64 (chkP p0 sq0 xss [xs1])) ∧ Below w.heap.size w w' := by
  obtain ⟨a0, c0, rfl, _⟩ := id hx0
  obtain ⟨a1, c1, rfl, _⟩ := id hx1
  obtain ⟨a2, c2, rfl, _⟩ := id hl
  have hl1 := hl.below (w' := w.alloc (.cells #[.int .i64 p0, .slice a0 sq0.length c0] 26)) (by repeat (first | exact Below.refl _ _ | apply blw_drew | apply blw_alloc | (refine blw_set ?_ (by first | omega | (simp; done) | (simp; omega)) _) | refine below_chain ?_ (by assumption)))
  have hcon := fun W hx => scode_c (w := W) (p := p0) (x := .slice a0 sq0.length c0) (l := .slice none 0 0) (xss := []) hx (Rl.nil W) hm0 (by simp) (by simp)
  obtain ⟨k, hk⟩ : ∃ k, k = chkP p0 sq0 [] [] := ⟨_, rfl⟩
  by_cases h0 : chkP p0 sq0 [] [] = 0
  · obtain ⟨h1, h2, _⟩ := chkP_pos h0
    have hp := (isSp_iff.1 h1).1
    have hp1 := hp.lo
    have hp2 := hp.hi
    rw [h0] at hk
    subst hk
    simp only [h0] at hcon
    cases hv : isV p0 (extL p0 sq0) xs1
    · rw [chkP_bad h0 hv]
      go_enter Try.func20, Try.ntmps20
      have hb0 : Below w.heap.size w (w.alloc (.cells #[.int .i64 p0, .slice a0 sq0.length c0] 26)) := (by repeat (first | exact Below.refl _ _ | apply blw_drew | apply blw_alloc | (refine blw_set ?_ (by first | omega | (simp; done) | (simp; omega)) _) | refine below_chain ?_ (by assumption)))
      have hx0 := hx0.below hb0; have hx1 := hx1.below hb0
      have d00 : (w.alloc (.cells #[.int .i64 p0, .slice a0 sq0.length c0] 26)).cell? ⟨w.heap.size, 0, none⟩ = some (.int .i64 p0) := by simp [go_sem]
      have d01 : (w.alloc (.cells #[.int .i64 p0, .slice a0 sq0.length c0] 26)).cell? ⟨w.heap.size, 1, none⟩ = some (.slice a0 sq0.length c0) := by simp [go_sem]
      go_wp2_with fail
      refine (hcon _ hx0).mono ?_; rintro e w1 ⟨rfl, hb1⟩
      have hx0 := hx0.below hb1; have hx1 := hx1.below hb1; have d00 := kept hb1 d00; have d01 := kept hb1 d01
      go_wp2_with fail
      refine (sext_c hx0 h1).mono ?_; rintro e w2 ⟨y, rfl, hy, hb2⟩
      have hx0 := hx0.below hb2; have hx1 := hx1.below hb2; have d00 := kept hb2 d00; have d01 := kept hb2 d01
      go_wp2_with fail
      refine (svec_c hy.sl hx1 hm1 (by omega) (by omega)).mono ?_; rintro e w3 ⟨rfl, hb3⟩
      have hx0 := hx0.below hb3; have hx1 := hx1.below hb3; have d00 := kept hb3 d00; have d01 := kept hb3 d01; have hy := hy.below hb3
      simp only [hv]
      go_wp2_with fail
      go_ret
      exact ⟨rfl, (by repeat (first | exact Below.refl _ _ | apply blw_drew | apply blw_alloc | (refine blw_set ?_ (by first | omega | (simp; done) | (simp; omega)) _) | refine below_chain ?_ (by assumption)))⟩
    · rw [chkP_cons h0 hv]
      go_enter Try.func20, Try.ntmps20
      have hb0 : Below w.heap.size w (w.alloc (.cells #[.int .i64 p0, .slice a0 sq0.length c0] 26)) := (by repeat (first | exact Below.refl _ _ | apply blw_drew | apply blw_alloc | (refine blw_set ?_ (by first | omega | (simp; done) | (simp; omega)) _) | refine below_chain ?_ (by assumption)))
      have hx0 := hx0.below hb0; have hx1 := hx1.below hb0
      have d00 : (w.alloc (.cells #[.int .i64 p0, .slice a0 sq0.length c0] 26)).cell? ⟨w.heap.size, 0, none⟩ = some (.int .i64 p0) := by simp [go_sem]
      have d01 : (w.alloc (.cells #[.int .i64 p0, .slice a0 sq0.length c0] 26)).cell? ⟨w.heap.size, 1, none⟩ = some (.slice a0 sq0.length c0) := by simp [go_sem]
      go_wp2_with fail
      refine (hcon _ hx0).mono ?_; rintro e w1 ⟨rfl, hb1⟩
      have hx0 := hx0.below hb1; have hx1 := hx1.below hb1; have d00 := kept hb1 d00; have d01 := kept hb1 d01; have hl1 := hl1.below hb1
      go_wp2_with fail
      refine (sext_c hx0 h1).mono ?_; rintro e w2 ⟨y, rfl, hy, hb2⟩
      have hx0 := hx0.below hb2; have hx1 := hx1.below hb2; have d00 := kept hb2 d00; have d01 := kept hb2 d01; have hl1 := hl1.below hb2
      go_wp2_with fail
      refine (svec_c hy.sl hx1 hm1 (by omega) (by omega)).mono ?_; rintro e w3 ⟨rfl, hb3⟩
      have hx0 := hx0.below hb3; have hx1 := hx1.below hb3; have d00 := kept hb3 d00; have d01 := kept hb3 d01; have hl1 := hl1.below hb3; have hy := hy.below hb3
      simp only [hv]
      go_wp2_with fail
      refine (scode_c hx0 hl1 hm0 hm2 hm3).mono ?_; rintro e w4 ⟨rfl, hb4⟩
      have hx0 := hx0.below hb4; have hx1 := hx1.below hb4; have d00 := kept hb4 d00; have d01 := kept hb4 d01; have hl1 := hl1.below hb4; have hy := hy.below hb4
      go_wp2_with fail
      go_ret
      exact ⟨rfl, (by repeat (first | exact Below.refl _ _ | apply blw_drew | apply blw_alloc | (refine blw_set ?_ (by first | omega | (simp; done) | (simp; omega)) _) | refine below_chain ?_ (by assumption)))⟩
  · rw [chkP_non h0]
    rw [← hk] at h0 ⊢
    simp only [← hk] at hcon
    clear hk
    go_enter Try.func20, Try.ntmps20
    have hb0 : Below w.heap.size w (w.alloc (.cells #[.int .i64 p0, .slice a0 sq0.length c0] 26)) := (by repeat (first | exact Below.refl _ _ | apply blw_drew | apply blw_alloc | (refine blw_set ?_ (by first | omega | (simp; done) | (simp; omega)) _) | refine below_chain ?_ (by assumption)))
    have hx0 := hx0.below hb0; have hx1 := hx1.below hb0
    have d00 : (w.alloc (.cells #[.int .i64 p0, .slice a0 sq0.length c0] 26)).cell? ⟨w.heap.size, 0, none⟩ = some (.int .i64 p0) := by simp [go_sem]
    have d01 : (w.alloc (.cells #[.int .i64 p0, .slice a0 sq0.length c0] 26)).cell? ⟨w.heap.size, 1, none⟩ = some (.slice a0 sq0.length c0) := by simp [go_sem]
    go_wp2_with fail
    refine (hcon _ hx0).mono ?_; rintro e w1 ⟨rfl, hb1⟩
    have hx0 := hx0.below hb1; have hx1 := hx1.below hb1; have d00 := kept hb1 d00; have d01 := kept hb1 d01
    go_wp2_with fail
    go_ret
    exact ⟨rfl, (by repeat (first | exact Below.refl _ _ | apply blw_drew | apply blw_alloc | (refine blw_set ?_ (by first | omega | (simp; done) | (simp; omega)) _) | refine below_chain ?_ (by assumption)))⟩
end Go.Proofs.Ytklnpikkkekonaa
