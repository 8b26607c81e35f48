/-
  The extension of a space: the program's and the reference's, and the law.
-/
import Derived.Test.YtcpeogbneliceaaLaw2
namespace Go.Proofs.Ytcpeogbneliceaa
open Go.RowKit

def RExtendSpace1 (p : Int) (sq : List Int) : Int := chkP p sq [] []
def RExtendSpace0 (p : Int) (sq : List Int) : List Int := if RExtendSpace1 p sq = 0 then extL p sq else []
def RExtendSpace0p (p : Int) (sq : List Int) : Int := if RExtendSpace1 p sq = 0 then p else 0
theorem RExtendSpace0_len (p : Int) (sq : List Int) (h : sq.length ≤ 1048576) : (RExtendSpace0 p sq).length ≤ 1048576 := by
  unfold RExtendSpace0
  split
  · rename_i h0
    have := (chkP_pos h0).2.1
    rw [extL_len]; omega
  · simp
theorem iExtendSpace_c {p0 : Int} {x0 : Value} {sq0 : List Int} {w : World} (hx0 : Sl w x0 sq0) (hm0 : sq0.length ≤ 1048576) :
    Calls Try.prog 28 #[.agg #[.int .i64 p0, x0]] w fun e w' => ∃ v0, e = .returned (.tuple #[.agg #[.int .i64 (RExtendSpace0p p0 sq0), v0], .int .i64 (RExtendSpace1 p0 sq0)]) ∧ OwI w' w.heap.size v0 (RExtendSpace0 p0 sq0) ∧ Below w.heap.size w w' := by
  obtain ⟨a, c, rfl, _⟩ := id hx0
  obtain ⟨W, hW⟩ : ∃ W, W = (w.alloc (.cells #[.int .i64 p0, .slice a sq0.length c] 28)).alloc (.cells #[.int .i64 0, .slice none 0 0] 28) := ⟨_, rfl⟩
  have hbW : Below w.heap.size w W := by rw [hW]; exact (by repeat (first | exact Below.refl _ _ | apply blw_drew | apply blw_alloc | (refine blw_set ?_ (by first | omega | (simp; done) | (simp; omega)) _) | refine below_chain ?_ (by assumption)))
  have hx1 := hx0.below hbW
  have d0 : W.cell? ⟨w.heap.size, 0, none⟩ = some (.int .i64 p0) := by rw [hW]; simp [go_sem]
  have d1 : W.cell? ⟨w.heap.size, 1, none⟩ = some (.slice a sq0.length c) := by rw [hW]; simp [go_sem]
  have r0 : W.cell? ⟨w.heap.size + 1, 0, none⟩ = some (.int .i64 0) := by rw [hW]; simp [go_sem]
  have r1 : W.cell? ⟨w.heap.size + 1, 1, none⟩ = some (.slice none 0 0) := by rw [hW]; simp [go_sem]
  have f0 : W.frozen? ⟨w.heap.size + 1, 0, none⟩ = false := by rw [hW]; simp [go_sem]
  have f1 : W.frozen? ⟨w.heap.size + 1, 1, none⟩ = false := by rw [hW]; simp [go_sem]
  have hsz : w.heap.size + 1 < W.heap.size := by rw [hW]; simp
  have hcon := chkpl_c (p := p0) hx1 (Rl.nil _) (Rl.nil _) hm0 (by simp) (by simp) (by simp) (by simp)
  rw [hW] at hcon
  unfold RExtendSpace0 RExtendSpace0p
  have hk : RExtendSpace1 p0 sq0 = chkP p0 sq0 [] [] := rfl
  rw [← hk] at hcon
  by_cases h0 : RExtendSpace1 p0 sq0 = 0
  · rw [if_pos h0, if_pos h0]
    obtain ⟨h1, h2, h3, h4⟩ := chkP_pos h0
    rw [h0] at hcon ⊢
    clear hk h0
    go_enter Try.func28, Try.ntmps28
    go_wp2_with fail
    refine hcon.mono ?_; rintro e w1 ⟨rfl, hb1⟩
    rw [← hW] at hb1
    clear hW hcon
    have d0 := kept hb1 d0; have d1 := kept hb1 d1; have r0 := kept hb1 r0; have r1 := kept hb1 r1; have f0 := keptF hb1 hsz f0; have f1 := keptF hb1 hsz f1; have hx1 := hx1.below hb1
    have hsz := Nat.lt_of_lt_of_le hsz hb1.size
    go_wp2_with fail
    refine (ext_c hx1 h1).mono ?_; rintro e w2 ⟨v, rfl, ⟨g, cap, rfl, ho⟩, hb2⟩
    have r0 := kept hb2 r0; have r1 := kept hb2 r1; have f0 := keptF hb2 hsz f0; have f1 := keptF hb2 hsz f1
    have hlt := ho.lt
    go_wp2_with fail
    refine bodyPost_ret (v := .tuple #[.agg #[.int .i64 p0, .slice (some ⟨g, 0, none⟩) (extL p0 sq0).length cap], .int .i64 0]) (by simp [results, Try.results28, go_sem, r0, r1]) rfl ⟨_, rfl, .inr ⟨g, cap, cap, rfl, ?_⟩, ?_⟩
    · exact ((ho.rebase (by omega)).other (by simp; omega) _).other (by simp; omega) _
    · exact blw_set (blw_set (by repeat (first | exact Below.refl _ _ | apply blw_drew | apply blw_alloc | (refine blw_set ?_ (by first | omega | (simp; done) | (simp; omega)) _) | refine below_chain ?_ (by assumption))) (by simp) _) (by simp) _
  · rw [if_neg h0, if_neg h0]
    obtain ⟨k, hk2⟩ : ∃ k, k = RExtendSpace1 p0 sq0 := ⟨_, rfl⟩
    rw [← hk2] at h0 hcon ⊢
    clear hk2 hk
    go_enter Try.func28, Try.ntmps28
    go_wp2_with fail
    refine hcon.mono ?_; rintro e w1 ⟨rfl, hb1⟩
    rw [← hW] at hb1
    clear hW hcon
    have r0 := kept hb1 r0; have r1 := kept hb1 r1; have f0 := keptF hb1 hsz f0; have f1 := keptF hb1 hsz f1
    go_wp2_with fail
    refine bodyPost_ret (v := .tuple #[.agg #[.int .i64 0, .slice none 0 0], .int .i64 k]) (by simp [results, Try.results28, go_sem, r0, r1]) rfl ⟨_, rfl, .inl ⟨rfl, rfl⟩, ?_⟩
    exact blw_set (blw_set (by repeat (first | exact Below.refl _ _ | apply blw_drew | apply blw_alloc | (refine blw_set ?_ (by first | omega | (simp; done) | (simp; omega)) _) | refine below_chain ?_ (by assumption))) (by simp) _) (by simp) _
theorem sExtendSpace_c {p0 : Int} {x0 : Value} {sq0 : List Int} {w : World} (hx0 : Sl w x0 sq0) (hm0 : sq0.length ≤ 1048576) :
    Calls Try.prog 27 #[.agg #[.int .i64 p0, x0]] w fun e w' => ∃ v0, e = .returned (.tuple #[.agg #[.int .i64 (RExtendSpace0p p0 sq0), v0], .int .i64 (RExtendSpace1 p0 sq0)]) ∧ OwI w' w.heap.size v0 (RExtendSpace0 p0 sq0) ∧ Below w.heap.size w w' := by
  obtain ⟨a, c, rfl, _⟩ := id hx0
  obtain ⟨W, hW⟩ : ∃ W, W = (w.alloc (.cells #[.int .i64 p0, .slice a sq0.length c] 28)).alloc (.cells #[.int .i64 0, .slice none 0 0] 28) := ⟨_, rfl⟩
  have hbW : Below w.heap.size w W := by rw [hW]; exact (by repeat (first | exact Below.refl _ _ | apply blw_drew | apply blw_alloc | (refine blw_set ?_ (by first | omega | (simp; done) | (simp; omega)) _) | refine below_chain ?_ (by assumption)))
  have hx1 := hx0.below hbW
  have d0 : W.cell? ⟨w.heap.size, 0, none⟩ = some (.int .i64 p0) := by rw [hW]; simp [go_sem]
  have d1 : W.cell? ⟨w.heap.size, 1, none⟩ = some (.slice a sq0.length c) := by rw [hW]; simp [go_sem]
  have r0 : W.cell? ⟨w.heap.size + 1, 0, none⟩ = some (.int .i64 0) := by rw [hW]; simp [go_sem]
  have r1 : W.cell? ⟨w.heap.size + 1, 1, none⟩ = some (.slice none 0 0) := by rw [hW]; simp [go_sem]
  have f0 : W.frozen? ⟨w.heap.size + 1, 0, none⟩ = false := by rw [hW]; simp [go_sem]
  have f1 : W.frozen? ⟨w.heap.size + 1, 1, none⟩ = false := by rw [hW]; simp [go_sem]
  have hsz : w.heap.size + 1 < W.heap.size := by rw [hW]; simp
  have hcon := scode_c (p := p0) hx1 (Rl.nil _) hm0 (by simp) (by simp)
  rw [hW] at hcon
  unfold RExtendSpace0 RExtendSpace0p
  have hk : RExtendSpace1 p0 sq0 = chkP p0 sq0 [] [] := rfl
  rw [← hk] at hcon
  by_cases h0 : RExtendSpace1 p0 sq0 = 0
  · rw [if_pos h0, if_pos h0]
    obtain ⟨h1, h2, h3, h4⟩ := chkP_pos h0
    rw [h0] at hcon ⊢
    clear hk h0
    go_enter Try.func27, Try.ntmps27
    go_wp2_with fail
    refine hcon.mono ?_; rintro e w1 ⟨rfl, hb1⟩
    rw [← hW] at hb1
    clear hW hcon
    have d0 := kept hb1 d0; have d1 := kept hb1 d1; have r0 := kept hb1 r0; have r1 := kept hb1 r1; have f0 := keptF hb1 hsz f0; have f1 := keptF hb1 hsz f1; have hx1 := hx1.below hb1
    have hsz := Nat.lt_of_lt_of_le hsz hb1.size
    go_wp2_with fail
    refine (sext_c hx1 h1).mono ?_; rintro e w2 ⟨v, rfl, ⟨g, cap, rfl, ho⟩, hb2⟩
    have r0 := kept hb2 r0; have r1 := kept hb2 r1; have f0 := keptF hb2 hsz f0; have f1 := keptF hb2 hsz f1
    have hlt := ho.lt
    go_wp2_with fail
    refine bodyPost_ret (v := .tuple #[.agg #[.int .i64 p0, .slice (some ⟨g, 0, none⟩) (extL p0 sq0).length cap], .int .i64 0]) (by simp [results, Try.results27, go_sem, r0, r1]) rfl ⟨_, rfl, .inr ⟨g, cap, cap, rfl, ?_⟩, ?_⟩
    · exact ((ho.rebase (by omega)).other (by simp; omega) _).other (by simp; omega) _
    · exact blw_set (blw_set (by repeat (first | exact Below.refl _ _ | apply blw_drew | apply blw_alloc | (refine blw_set ?_ (by first | omega | (simp; done) | (simp; omega)) _) | refine below_chain ?_ (by assumption))) (by simp) _) (by simp) _
  · rw [if_neg h0, if_neg h0]
    obtain ⟨k, hk2⟩ : ∃ k, k = RExtendSpace1 p0 sq0 := ⟨_, rfl⟩
    rw [← hk2] at h0 hcon ⊢
    clear hk2 hk
    go_enter Try.func27, Try.ntmps27
    go_wp2_with fail
    refine hcon.mono ?_; rintro e w1 ⟨rfl, hb1⟩
    rw [← hW] at hb1
    clear hW hcon
    have r0 := kept hb1 r0; have r1 := kept hb1 r1; have f0 := keptF hb1 hsz f0; have f1 := keptF hb1 hsz f1
    go_wp2_with fail
    refine bodyPost_ret (v := .tuple #[.agg #[.int .i64 0, .slice none 0 0], .int .i64 k]) (by simp [results, Try.results27, go_sem, r0, r1]) rfl ⟨_, rfl, .inl ⟨rfl, rfl⟩, ?_⟩
    exact blw_set (blw_set (by repeat (first | exact Below.refl _ _ | apply blw_drew | apply blw_alloc | (refine blw_set ?_ (by first | omega | (simp; done) | (simp; omega)) _) | refine below_chain ?_ (by assumption))) (by simp) _) (by simp) _
theorem law_ExtendSpace {p0 : Int} {x0 : Value} {sq0 : List Int} {w : World} (hx0 : Sl w x0 sq0) (hm0 : sq0.length ≤ 9223372036854775807) :
    Calls Try.prog 5 #[.agg #[.int .i64 p0, x0]] w fun e w' => e = .returned (.bool true) ∧ Below w.heap.size w w' := by
  obtain ⟨a0, c0, rfl, _⟩ := id hx0
  obtain ⟨z0, hz0⟩ : ∃ z, z = szI 1048576 sq0.length := ⟨_, rfl⟩
  have hzb0 := szI_bd (left := 1048576) (n := sq0.length) (by decide) (by decide)
  rw [← hz0] at hzb0
  by_cases hs0 : z0 < 0
  case pos =>
    go_enter Try.func5, Try.ntmps5
    go_wp2_with (go_at_call 15; refine (szsp_c (by decide) (by decide) (by omega)).mono ?_; rintro e w1 ⟨rfl, hb1⟩; simp only [← hz0])
    go_ret
    exact ⟨rfl, (by repeat (first | exact Below.refl _ _ | apply blw_drew | apply blw_alloc | (refine blw_set ?_ (by first | omega | (simp; done) | (simp; omega)) _) | refine below_chain ?_ (by assumption)))⟩
  have hl0 : sq0.length ≤ 1048576 := by rw [hz0] at hs0; have := cnt_bd hs0; omega
  have hI := fun (W : World) (x0 : Value) (hx0 : Sl W x0 sq0) => iExtendSpace_c (w := W) (p0 := p0) hx0 hl0
  have hS := fun (W : World) (x0 : Value) (hx0 : Sl W x0 sq0) => sExtendSpace_c (w := W) (p0 := p0) hx0 hl0
  have yl0 := RExtendSpace0_len p0 sq0 hl0
  obtain ⟨y0, hy0⟩ : ∃ y, y = RExtendSpace0 p0 sq0 := ⟨_, rfl⟩
  obtain ⟨q0, hq0⟩ : ∃ y, y = RExtendSpace0p p0 sq0 := ⟨_, rfl⟩
  obtain ⟨y1, hy1⟩ : ∃ y, y = RExtendSpace1 p0 sq0 := ⟨_, rfl⟩
  simp only [← hy0, ← hq0, ← hy1] at hI hS yl0
  clear hy0 hq0 hy1
  go_enter Try.func5, Try.ntmps5
  have hb0 : Below w.heap.size w (w.alloc (.cells #[.int .i64 p0, .slice a0 sq0.length c0] 24)) := (by repeat (first | exact Below.refl _ _ | apply blw_drew | apply blw_alloc | (refine blw_set ?_ (by first | omega | (simp; done) | (simp; omega)) _) | refine below_chain ?_ (by assumption)))
  have hx0 := hx0.below hb0
  have d00 : (w.alloc (.cells #[.int .i64 p0, .slice a0 sq0.length c0] 24)).cell? ⟨w.heap.size, 0, none⟩ = some (.int .i64 p0) := by simp [go_sem]
  have d01 : (w.alloc (.cells #[.int .i64 p0, .slice a0 sq0.length c0] 24)).cell? ⟨w.heap.size, 1, none⟩ = some (.slice a0 sq0.length c0) := by simp [go_sem]
  go_wp2_with fail
  refine (szsp_c (by decide) (by decide) (by omega)).mono ?_; rintro e w1 ⟨rfl, hb1⟩
  simp only [← hz0]
  have hx0 := hx0.below hb1; have d00 := kept hb1 d00; have d01 := kept hb1 d01
  go_wp2_with fail
  refine (tosp_c hx0 hl0).mono ?_; rintro e w2 ⟨t0, rfl, ht0, hb2⟩
  have hx0 := hx0.below hb2; have d00 := kept hb2 d00; have d01 := kept hb2 d01
  go_wp2_with fail
  refine (hS _ _ ht0.sl).mono ?_; rintro e w3 ⟨s0, rfl, hs0', hb3⟩
  have hx0 := hx0.below hb3; have d00 := kept hb3 d00; have d01 := kept hb3 d01
  obtain ⟨sa0, sc0, rfl, _⟩ := hs0'.sl
  have hb4 : Below w3.heap.size w3 (w3.alloc (.cells #[.int .i64 q0, .slice sa0 y0.length sc0] 28)) := (by repeat (first | exact Below.refl _ _ | apply blw_drew | apply blw_alloc | (refine blw_set ?_ (by first | omega | (simp; done) | (simp; omega)) _) | refine below_chain ?_ (by assumption)))
  have hx0 := hx0.below hb4; have d00 := kept hb4 d00; have d01 := kept hb4 d01; have hs0' := hs0'.below hb4
  have sc00 : (w3.alloc (.cells #[.int .i64 q0, .slice sa0 y0.length sc0] 28)).cell? ⟨w3.heap.size, 0, none⟩ = some (.int .i64 q0) := by simp [go_sem]
  have sc01 : (w3.alloc (.cells #[.int .i64 q0, .slice sa0 y0.length sc0] 28)).cell? ⟨w3.heap.size, 1, none⟩ = some (.slice sa0 y0.length sc0) := by simp [go_sem]
  have hx0_ := hx0
  have d00_ := d00
  have d01_ := d01
  have hs0'_ := hs0'
  have sc00_ := sc00
  have sc01_ := sc01
  go_wp2_with fail
  refine (tosp_c hx0 hl0).mono ?_; rintro e w5 ⟨t0, rfl, ⟨g0, k0, rfl, ht0⟩, hb5⟩
  have hx0 := hx0.below hb5; have d00 := kept hb5 d00; have d01 := kept hb5 d01; have hs0' := hs0'.below hb5; have sc00 := kept hb5 sc00; have sc01 := kept hb5 sc01
  have le5 := hb5.size; have ub0 : g0 < w5.heap.size := ht0.lt.2; have lb0 : (w3.alloc (.cells #[.int .i64 q0, .slice sa0 y0.length sc0] 28)).heap.size ≤ g0 := ht0.lt.1
  have hb6 : Below w5.heap.size w5 (w5.alloc (.cells #[.int .i64 p0, .slice (some ⟨g0, 0, none⟩) sq0.length k0] 28)) := (by repeat (first | exact Below.refl _ _ | apply blw_drew | apply blw_alloc | (refine blw_set ?_ (by first | omega | (simp; done) | (simp; omega)) _) | refine below_chain ?_ (by assumption)))
  have hx0 := hx0.below hb6; have d00 := kept hb6 d00; have d01 := kept hb6 d01; have hs0' := hs0'.below hb6; have sc00 := kept hb6 sc00; have sc01 := kept hb6 sc01; have ht0 := ht0.below hb6
  have e00 : (w5.alloc (.cells #[.int .i64 p0, .slice (some ⟨g0, 0, none⟩) sq0.length k0] 28)).cell? ⟨w5.heap.size, 0, none⟩ = some (.int .i64 p0) := by simp [go_sem]
  have e01 : (w5.alloc (.cells #[.int .i64 p0, .slice (some ⟨g0, 0, none⟩) sq0.length k0] 28)).cell? ⟨w5.heap.size, 1, none⟩ = some (.slice (some ⟨g0, 0, none⟩) sq0.length k0) := by simp [go_sem]
  have le6 : (w5.alloc (.cells #[.int .i64 p0, .slice (some ⟨g0, 0, none⟩) sq0.length k0] 28)).heap.size = w5.heap.size + 1 := by simp
  go_wp2_with fail
  refine (hI _ _ ht0.sl).mono ?_; rintro e w7 ⟨g100', rfl, hg0, hb7⟩
  have hx0 := hx0.below hb7; have d00 := kept hb7 d00; have d01 := kept hb7 d01; have hs0' := hs0'.below hb7; have sc00 := kept hb7 sc00; have sc01 := kept hb7 sc01; have ht0 := ht0.below hb7; have e00 := kept hb7 e00; have e01 := kept hb7 e01
  have bg0 := hg0.blk
  have le7 := hb7.size
  obtain ⟨ga0, gc0, rfl, _⟩ := hg0.sl
  have hb8 : Below w7.heap.size w7 (w7.alloc (.cells #[.int .i64 q0, .slice ga0 y0.length gc0] 28)) := (by repeat (first | exact Below.refl _ _ | apply blw_drew | apply blw_alloc | (refine blw_set ?_ (by first | omega | (simp; done) | (simp; omega)) _) | refine below_chain ?_ (by assumption)))
  have hx0 := hx0.below hb8; have d00 := kept hb8 d00; have d01 := kept hb8 d01; have hs0' := hs0'.below hb8; have sc00 := kept hb8 sc00; have sc01 := kept hb8 sc01; have ht0 := ht0.below hb8; have e00 := kept hb8 e00; have e01 := kept hb8 e01; have hg0 := hg0.below hb8
  have gd00 : (w7.alloc (.cells #[.int .i64 q0, .slice ga0 y0.length gc0] 28)).cell? ⟨w7.heap.size, 0, none⟩ = some (.int .i64 q0) := by simp [go_sem]
  have gd01 : (w7.alloc (.cells #[.int .i64 q0, .slice ga0 y0.length gc0] 28)).cell? ⟨w7.heap.size, 1, none⟩ = some (.slice ga0 y0.length gc0) := by simp [go_sem]
  go_wp2_with fail
  refine (eqsps_c hg0.sl hs0'.sl yl0).mono ?_; rintro e w9 ⟨rfl, hb9⟩
  have hx0 := hx0.below hb9; have d00 := kept hb9 d00; have d01 := kept hb9 d01; have hs0' := hs0'.below hb9; have sc00 := kept hb9 sc00; have sc01 := kept hb9 sc01; have ht0 := ht0.below hb9; have e00 := kept hb9 e00; have e01 := kept hb9 e01; have hg0 := hg0.below hb9; have gd00 := kept hb9 gd00; have gd01 := kept hb9 gd01
  go_wp2_with fail
  refine region_flow [(false, [(0, 1), (1, 1), (2, 5)]), (false, [(3, 4), (4, 0)])] (by kernel_rfl) ?_
  refine norm_K fun K hK => ?_
  change wpList _ _ _ [_, _, _] _ _
  have hb10 : Below w9.heap.size w9 w9.drew := (by repeat (first | exact Below.refl _ _ | apply blw_drew | apply blw_alloc | (refine blw_set ?_ (by first | omega | (simp; done) | (simp; omega)) _) | refine below_chain ?_ (by assumption)))
  have hx0 := hx0.below hb10; have d00 := kept hb10 d00; have d01 := kept hb10 d01; have hs0' := hs0'.below hb10; have sc00 := kept hb10 sc00; have sc01 := kept hb10 sc01; have ht0 := ht0.below hb10; have e00 := kept hb10 e00; have e01 := kept hb10 e01; have hg0 := hg0.below hb10; have gd00 := kept hb10 gd00; have gd01 := kept hb10 gd01
  go_wp2_with fail
  refine (tosp_c hx0 hl0).mono ?_; rintro e w11 ⟨u0, rfl, hu0, hb11⟩
  have hx0 := hx0.below hb11; have d00 := kept hb11 d00; have d01 := kept hb11 d01; have hs0' := hs0'.below hb11; have sc00 := kept hb11 sc00; have sc01 := kept hb11 sc01; have ht0 := ht0.below hb11; have e00 := kept hb11 e00; have e01 := kept hb11 e01; have hg0 := hg0.below hb11; have gd00 := kept hb11 gd00; have gd01 := kept hb11 gd01
  go_wp2_with fail
  first | (refine hK _ _ ⟨hb11, ?_⟩; clear hK K) | refine ⟨hb11, ?_⟩
  refine norm_K fun K hK => ?_
  change wpList _ _ _ [_, _] _ _
  go_wp2_with fail
  refine (eqsps_c ht0.sl hu0.sl hl0).mono ?_; rintro e w12 ⟨rfl, hb12⟩
  have hx0 := hx0.below hb12; have d00 := kept hb12 d00; have d01 := kept hb12 d01; have hs0' := hs0'.below hb12; have sc00 := kept hb12 sc00; have sc01 := kept hb12 sc01; have ht0 := ht0.below hb12; have e00 := kept hb12 e00; have e01 := kept hb12 e01; have hg0 := hg0.below hb12; have gd00 := kept hb12 gd00; have gd01 := kept hb12 gd01
  go_wp2_with fail
  first | (refine hK _ _ ⟨rfl, ?_⟩; clear hK K) | refine ⟨rfl, ?_⟩
  go_wp2_with fail
  have hW0 : Below (w3.alloc (.cells #[.int .i64 q0, .slice sa0 y0.length sc0] 28)).heap.size (w3.alloc (.cells #[.int .i64 q0, .slice sa0 y0.length sc0] 28)) w12 := (by repeat (first | exact Below.refl _ _ | apply blw_drew | apply blw_alloc | (refine blw_set ?_ (by first | omega | (simp; done) | (simp; omega)) _) | refine below_chain ?_ (by assumption)))
  refine (marksp_c (ht0.fr.ow (Nat.le_refl _)) hl0 (by omega) (by omega)).mono ?_; rintro e w13 ⟨rfl, hm0_, hgr0⟩
  have hb13 := blw_mark hW0 hgr0 (fun j hj => by have e : g0 = j := Option.some.inj hj; omega); clear hW0
  have hx0 := hx0_.below hb13
  have d00 := kept hb13 d00_
  have d01 := kept hb13 d01_
  have hs0' := hs0'_.below hb13
  have sc00 := kept hb13 sc00_
  have sc01 := kept hb13 sc01_
  have e00 := farc hgr0 e00 (fun hj => absurd (Option.some.inj (show some _ = some g0 from hj)) (by omega))
  have e01 := farc hgr0 e01 (fun hj => absurd (Option.some.inj (show some _ = some g0 from hj)) (by omega))
  have hg0 := hg0.far hgr0 (fun j hj => by have e : g0 = j := Option.some.inj hj; omega)
  have gd00 := farc hgr0 gd00 (fun hj => absurd (Option.some.inj (show some _ = some g0 from hj)) (by omega))
  have gd01 := farc hgr0 gd01 (fun hj => absurd (Option.some.inj (show some _ = some g0 from hj)) (by omega))
  go_wp2_with fail
  refine (eqsps_c hg0.sl hs0'.sl yl0).mono ?_; rintro e w14 ⟨rfl, hb14⟩
  have hx0 := hx0.below hb14; have d00 := kept hb14 d00; have d01 := kept hb14 d01; have hs0' := hs0'.below hb14; have sc00 := kept hb14 sc00; have sc01 := kept hb14 sc01; have e00 := kept hb14 e00; have e01 := kept hb14 e01; have hg0 := hg0.below hb14; have gd00 := kept hb14 gd00; have gd01 := kept hb14 gd01
  go_wp2_with fail
  have hWg : Below (w3.alloc (.cells #[.int .i64 q0, .slice sa0 y0.length sc0] 28)).heap.size (w3.alloc (.cells #[.int .i64 q0, .slice sa0 y0.length sc0] 28)) w14 := (by repeat (first | exact Below.refl _ _ | apply blw_drew | apply blw_alloc | (refine blw_set ?_ (by first | omega | (simp; done) | (simp; omega)) _) | refine below_chain ?_ (by assumption)))
  have lg : (w3.alloc (.cells #[.int .i64 q0, .slice sa0 y0.length sc0] 28)).heap.size ≤ (w5.alloc (.cells #[.int .i64 p0, .slice (some ⟨g0, 0, none⟩) sq0.length k0] 28)).heap.size := (below_le (by repeat (first | exact Below.refl _ _ | apply blw_drew | apply blw_alloc | (refine blw_set ?_ (by first | omega | (simp; done) | (simp; omega)) _) | refine below_chain ?_ (by assumption))))
  refine (marksp_c hg0 yl0 (by omega) (by omega)).mono ?_; rintro e w15 ⟨rfl, hg0, hgrg⟩
  have hb15 := blw_mark hWg hgrg (fun j hj => by have := bg0 j hj; omega); clear hWg
  have hx0 := hx0_.below hb15
  have d00 := kept hb15 d00_
  have d01 := kept hb15 d01_
  have hs0' := hs0'_.below hb15
  have sc00 := kept hb15 sc00_
  have sc01 := kept hb15 sc01_
  have gd00 := farc hgrg gd00 (by intro hj; have := bg0 _ hj.symm; omega)
  have gd01 := farc hgrg gd01 (by intro hj; have := bg0 _ hj.symm; omega)
  go_wp2_with fail
  refine (heldsp_c (n := y0.length) hg0.sl yl0 (by omega) (by omega)).mono ?_; rintro e w16 ⟨rfl, hb16⟩
  have hx0 := hx0.below hb16; have d00 := kept hb16 d00; have d01 := kept hb16 d01; have hs0' := hs0'.below hb16; have sc00 := kept hb16 sc00; have sc01 := kept hb16 sc01; have hg0 := hg0.below hb16; have gd00 := kept hb16 gd00; have gd01 := kept hb16 gd01
  go_wp2_with fail
  refine (tosp_c hx0 hl0).mono ?_; rintro e w17 ⟨r0, rfl, hr0, hb17⟩
  have hx0 := hx0.below hb17; have d00 := kept hb17 d00; have d01 := kept hb17 d01; have hs0' := hs0'.below hb17; have sc00 := kept hb17 sc00; have sc01 := kept hb17 sc01; have hg0 := hg0.below hb17; have gd00 := kept hb17 gd00; have gd01 := kept hb17 gd01
  go_wp2_with fail
  refine (hI _ _ hr0.sl).mono ?_; rintro e w18 ⟨f100', rfl, hf0, hb18⟩
  have hx0 := hx0.below hb18; have d00 := kept hb18 d00; have d01 := kept hb18 d01; have hs0' := hs0'.below hb18; have sc00 := kept hb18 sc00; have sc01 := kept hb18 sc01; have hg0 := hg0.below hb18; have gd00 := kept hb18 gd00; have gd01 := kept hb18 gd01
  obtain ⟨fa0, fc0, rfl, _⟩ := hf0.sl
  have hb19 : Below w18.heap.size w18 (w18.alloc (.cells #[.int .i64 q0, .slice fa0 y0.length fc0] 28)) := (by repeat (first | exact Below.refl _ _ | apply blw_drew | apply blw_alloc | (refine blw_set ?_ (by first | omega | (simp; done) | (simp; omega)) _) | refine below_chain ?_ (by assumption)))
  have hx0 := hx0.below hb19; have d00 := kept hb19 d00; have d01 := kept hb19 d01; have hs0' := hs0'.below hb19; have sc00 := kept hb19 sc00; have sc01 := kept hb19 sc01; have hg0 := hg0.below hb19; have gd00 := kept hb19 gd00; have gd01 := kept hb19 gd01; have hf0 := hf0.below hb19
  have fd00 : (w18.alloc (.cells #[.int .i64 q0, .slice fa0 y0.length fc0] 28)).cell? ⟨w18.heap.size, 0, none⟩ = some (.int .i64 q0) := by simp [go_sem]
  have fd01 : (w18.alloc (.cells #[.int .i64 q0, .slice fa0 y0.length fc0] 28)).cell? ⟨w18.heap.size, 1, none⟩ = some (.slice fa0 y0.length fc0) := by simp [go_sem]
  go_wp2_with fail
  refine (eqsps_c hf0.sl hs0'.sl yl0).mono ?_; rintro e w20 ⟨rfl, hb20⟩
  have hx0 := hx0.below hb20; have d00 := kept hb20 d00; have d01 := kept hb20 d01; have hs0' := hs0'.below hb20; have sc00 := kept hb20 sc00; have sc01 := kept hb20 sc01; have hg0 := hg0.below hb20; have gd00 := kept hb20 gd00; have gd01 := kept hb20 gd01; have hf0 := hf0.below hb20; have fd00 := kept hb20 fd00; have fd01 := kept hb20 fd01
  go_wp2_with fail
  refine (heldsp_c (n := y0.length) hg0.sl yl0 (by omega) (by omega)).mono ?_; rintro e w21 ⟨rfl, hb21⟩
  have hx0 := hx0.below hb21; have d00 := kept hb21 d00; have d01 := kept hb21 d01; have hs0' := hs0'.below hb21; have sc00 := kept hb21 sc00; have sc01 := kept hb21 sc01; have hg0 := hg0.below hb21; have gd00 := kept hb21 gd00; have gd01 := kept hb21 gd01; have hf0 := hf0.below hb21; have fd00 := kept hb21 fd00; have fd01 := kept hb21 fd01
  go_wp2_with fail
  go_ret
  exact ⟨rfl, (by repeat (first | exact Below.refl _ _ | apply blw_drew | apply blw_alloc | (refine blw_set ?_ (by first | omega | (simp; done) | (simp; omega)) _) | refine below_chain ?_ (by assumption)))⟩
end Go.Proofs.Ytcpeogbneliceaa
