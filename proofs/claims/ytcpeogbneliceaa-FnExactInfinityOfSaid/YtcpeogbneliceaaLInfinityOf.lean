/-
  Infinity: the program's and the reference's, and the law.
-/
import Derived.Test.YtcpeogbneliceaaLaw2
namespace Go.Proofs.Ytcpeogbneliceaa
open Go.RowKit

def RInfinityOf1 (p : Int) (sq : List Int) : Int := chkP p sq [] []
def RInfinityOf0 (p : Int) (sq : List Int) : List Int := if RInfinityOf1 p sq = 0 then infL sq.length else []
theorem RInfinityOf0_len (p : Int) (sq : List Int) (h : sq.length ≤ 1048576) : (RInfinityOf0 p sq).length ≤ 1048576 := by
  unfold RInfinityOf0
  split
  · rename_i h0
    have := (chkP_pos h0).2.1
    rw [infL_len]; omega
  · simp
theorem iInfinityOf_c {p0 : Int} {x0 : Value} {sq0 : List Int} {w : World} (hx0 : Sl w x0 sq0) (hm0 : sq0.length ≤ 1048576) :
    Calls Try.prog 18 #[.agg #[.int .i64 p0, x0]] w fun e w' => ∃ v0, e = .returned (.tuple #[v0, .int .i64 (RInfinityOf1 p0 sq0)]) ∧ OwI w' w.heap.size v0 (RInfinityOf0 p0 sq0) ∧ Below w.heap.size w w' := by
  obtain ⟨a, c, rfl, _⟩ := id hx0
  have hx1 := hx0.below (w' := w.alloc (.cells #[.int .i64 p0, .slice a sq0.length c] 28)) (by repeat (first | exact Below.refl _ _ | apply blw_drew | apply blw_alloc | (refine blw_set ?_ (by first | omega | (simp; done) | (simp; omega)) _) | refine below_chain ?_ (by assumption)))
  unfold RInfinityOf0
  have hk : RInfinityOf1 p0 sq0 = chkP p0 sq0 [] [] := rfl
  by_cases h0 : RInfinityOf1 p0 sq0 = 0
  · rw [if_pos h0]
    obtain ⟨h1, h2, h3, h4⟩ := chkP_pos h0
    go_enter Try.func18, Try.ntmps18
    go_wp2_with (first
      | (go_at_call 52; refine (chkpl_c hx1 (Rl.nil _) (Rl.nil _) hm0 (by simp) (by simp) (by simp) (by simp)).mono ?_; rintro e w1 ⟨rfl, hb1⟩; simp only [← hk, h0]; obtain ⟨d0, d1⟩ := boxed hb1)
      | (go_at_call 53; refine (inf_c (hx1.below hb1) h1).mono ?_; rintro e w2 ⟨v, rfl, hv, hb2⟩))
    go_ret2
    exact ⟨_, by rw [h0]; rfl, hv.ow (below_le (by repeat (first | exact Below.refl _ _ | apply blw_drew | apply blw_alloc | (refine blw_set ?_ (by first | omega | (simp; done) | (simp; omega)) _) | refine below_chain ?_ (by assumption)))), (by repeat (first | exact Below.refl _ _ | apply blw_drew | apply blw_alloc | (refine blw_set ?_ (by first | omega | (simp; done) | (simp; omega)) _) | refine below_chain ?_ (by assumption)))⟩
  · rw [if_neg h0]
    obtain ⟨k, hk2⟩ : ∃ k, k = RInfinityOf1 p0 sq0 := ⟨_, rfl⟩
    rw [← hk2] at h0 hk ⊢
    go_enter Try.func18, Try.ntmps18
    go_wp2_with (go_at_call 52; refine (chkpl_c hx1 (Rl.nil _) (Rl.nil _) hm0 (by simp) (by simp) (by simp) (by simp)).mono ?_; rintro e w1 ⟨rfl, hb1⟩; simp only [← hk])
    go_ret2
    exact ⟨_, rfl, .inl ⟨rfl, rfl⟩, (by repeat (first | exact Below.refl _ _ | apply blw_drew | apply blw_alloc | (refine blw_set ?_ (by first | omega | (simp; done) | (simp; omega)) _) | refine below_chain ?_ (by assumption)))⟩
theorem sInfinityOf_c {p0 : Int} {x0 : Value} {sq0 : List Int} {w : World} (hx0 : Sl w x0 sq0) (hm0 : sq0.length ≤ 1048576) :
    Calls Try.prog 16 #[.agg #[.int .i64 p0, x0]] w fun e w' => ∃ v0, e = .returned (.tuple #[v0, .int .i64 (RInfinityOf1 p0 sq0)]) ∧ OwI w' w.heap.size v0 (RInfinityOf0 p0 sq0) ∧ Below w.heap.size w w' := by
  obtain ⟨a, c, rfl, _⟩ := id hx0
  have hx1 := hx0.below (w' := w.alloc (.cells #[.int .i64 p0, .slice a sq0.length c] 28)) (by repeat (first | exact Below.refl _ _ | apply blw_drew | apply blw_alloc | (refine blw_set ?_ (by first | omega | (simp; done) | (simp; omega)) _) | refine below_chain ?_ (by assumption)))
  unfold RInfinityOf0
  have hk : RInfinityOf1 p0 sq0 = chkP p0 sq0 [] [] := rfl
  by_cases h0 : RInfinityOf1 p0 sq0 = 0
  · rw [if_pos h0]
    obtain ⟨h1, h2, h3, h4⟩ := chkP_pos h0
    go_enter Try.func16, Try.ntmps16
    go_wp2_with (first
      | (go_at_call 50; refine (scode_c hx1 (Rl.nil _) hm0 (by simp) (by simp)).mono ?_; rintro e w1 ⟨rfl, hb1⟩; simp only [← hk, h0]; obtain ⟨d0, d1⟩ := boxed hb1)
      | (go_at_call 51; refine (sinf_c (hx1.below hb1) h1).mono ?_; rintro e w2 ⟨v, rfl, hv, hb2⟩))
    go_ret2
    exact ⟨_, by rw [h0]; rfl, hv.ow (below_le (by repeat (first | exact Below.refl _ _ | apply blw_drew | apply blw_alloc | (refine blw_set ?_ (by first | omega | (simp; done) | (simp; omega)) _) | refine below_chain ?_ (by assumption)))), (by repeat (first | exact Below.refl _ _ | apply blw_drew | apply blw_alloc | (refine blw_set ?_ (by first | omega | (simp; done) | (simp; omega)) _) | refine below_chain ?_ (by assumption)))⟩
  · rw [if_neg h0]
    obtain ⟨k, hk2⟩ : ∃ k, k = RInfinityOf1 p0 sq0 := ⟨_, rfl⟩
    rw [← hk2] at h0 hk ⊢
    go_enter Try.func16, Try.ntmps16
    go_wp2_with (go_at_call 50; refine (scode_c hx1 (Rl.nil _) hm0 (by simp) (by simp)).mono ?_; rintro e w1 ⟨rfl, hb1⟩; simp only [← hk])
    go_ret2
    exact ⟨_, rfl, .inl ⟨rfl, rfl⟩, (by repeat (first | exact Below.refl _ _ | apply blw_drew | apply blw_alloc | (refine blw_set ?_ (by first | omega | (simp; done) | (simp; omega)) _) | refine below_chain ?_ (by assumption)))⟩
theorem law_InfinityOf {p0 : Int} {x0 : Value} {sq0 : List Int} {w : World} (hx0 : Sl w x0 sq0) (hm0 : sq0.length ≤ 9223372036854775807) :
    Calls Try.prog 3 #[.agg #[.int .i64 p0, x0]] w fun e w' => e = .returned (.bool true) ∧ Below w.heap.size w w' := by
  obtain ⟨a0, c0, rfl, _⟩ := id hx0
  obtain ⟨z0, hz0⟩ : ∃ z, z = szI 1048576 sq0.length := ⟨_, rfl⟩
  have hzb0 := szI_bd (left := 1048576) (n := sq0.length) (by decide) (by decide)
  rw [← hz0] at hzb0
  by_cases hs0 : z0 < 0
  case pos =>
    go_enter Try.func3, Try.ntmps3
    go_wp2_with (go_at_call 15; refine (szsp_c (by decide) (by decide) (by omega)).mono ?_; rintro e w1 ⟨rfl, hb1⟩; simp only [← hz0])
    go_ret
    exact ⟨rfl, (by repeat (first | exact Below.refl _ _ | apply blw_drew | apply blw_alloc | (refine blw_set ?_ (by first | omega | (simp; done) | (simp; omega)) _) | refine below_chain ?_ (by assumption)))⟩
  have hl0 : sq0.length ≤ 1048576 := by rw [hz0] at hs0; have := cnt_bd hs0; omega
  have hI := fun (W : World) (x0 : Value) (hx0 : Sl W x0 sq0) => iInfinityOf_c (w := W) (p0 := p0) hx0 hl0
  have hS := fun (W : World) (x0 : Value) (hx0 : Sl W x0 sq0) => sInfinityOf_c (w := W) (p0 := p0) hx0 hl0
  have yl0 := RInfinityOf0_len p0 sq0 hl0
  obtain ⟨y0, hy0⟩ : ∃ y, y = RInfinityOf0 p0 sq0 := ⟨_, rfl⟩
  obtain ⟨y1, hy1⟩ : ∃ y, y = RInfinityOf1 p0 sq0 := ⟨_, rfl⟩
  simp only [← hy0, ← hy1] at hI hS yl0
  clear hy0 hy1
  go_enter Try.func3, Try.ntmps3
  have hb0 : Below w.heap.size w (w.alloc (.cells #[.int .i64 p0, .slice a0 sq0.length c0] 24)) := (by repeat (first | exact Below.refl _ _ | apply blw_drew | apply blw_alloc | (refine blw_set ?_ (by first | omega | (simp; done) | (simp; omega)) _) | refine below_chain ?_ (by assumption)))
  have hx0 := hx0.below hb0
  have d00 : (w.alloc (.cells #[.int .i64 p0, .slice a0 sq0.length c0] 24)).cell? ⟨w.heap.size, 0, none⟩ = some (.int .i64 p0) := by simp [go_sem]
  have d01 : (w.alloc (.cells #[.int .i64 p0, .slice a0 sq0.length c0] 24)).cell? ⟨w.heap.size, 1, none⟩ = some (.slice a0 sq0.length c0) := by simp [go_sem]
  go_wp2_with fail
  refine (szsp_c (by decide) (by decide) (by omega)).mono ?_; rintro e w1 ⟨rfl, hb1⟩
  simp only [← hz0]
  have hx0 := hx0.below hb1; have d00 := kept hb1 d00; have d01 := kept hb1 d01
  go_wp2_with fail
  refine (tosp_c hx0 hl0).mono ?_; rintro e w2 ⟨t0, rfl, ht0, hb2⟩
  have hx0 := hx0.below hb2; have d00 := kept hb2 d00; have d01 := kept hb2 d01
  go_wp2_with fail
  refine (hS _ _ ht0.sl).mono ?_; rintro e w3 ⟨s0, rfl, hs0', hb3⟩
  have hx0 := hx0.below hb3; have d00 := kept hb3 d00; have d01 := kept hb3 d01
  have hx0_ := hx0
  have d00_ := d00
  have d01_ := d01
  have hs0'_ := hs0'
  go_wp2_with fail
  refine (tosp_c hx0 hl0).mono ?_; rintro e w4 ⟨t0, rfl, ⟨g0, k0, rfl, ht0⟩, hb4⟩
  have hx0 := hx0.below hb4; have d00 := kept hb4 d00; have d01 := kept hb4 d01; have hs0' := hs0'.below hb4
  have le4 := hb4.size; have ub0 : g0 < w4.heap.size := ht0.lt.2; have lb0 : w3.heap.size ≤ g0 := ht0.lt.1
  go_wp2_with fail
  have hb5 : Below w4.heap.size w4 (w4.alloc (.cells #[.int .i64 p0, .slice (some ⟨g0, 0, none⟩) sq0.length k0] 28)) := (by repeat (first | exact Below.refl _ _ | apply blw_drew | apply blw_alloc | (refine blw_set ?_ (by first | omega | (simp; done) | (simp; omega)) _) | refine below_chain ?_ (by assumption)))
  have hx0 := hx0.below hb5; have d00 := kept hb5 d00; have d01 := kept hb5 d01; have hs0' := hs0'.below hb5; have ht0 := ht0.below hb5
  have e00 : (w4.alloc (.cells #[.int .i64 p0, .slice (some ⟨g0, 0, none⟩) sq0.length k0] 28)).cell? ⟨w4.heap.size, 0, none⟩ = some (.int .i64 p0) := by simp [go_sem]
  have e01 : (w4.alloc (.cells #[.int .i64 p0, .slice (some ⟨g0, 0, none⟩) sq0.length k0] 28)).cell? ⟨w4.heap.size, 1, none⟩ = some (.slice (some ⟨g0, 0, none⟩) sq0.length k0) := by simp [go_sem]
  have le5 := hb5.size
  go_wp2_with fail
  refine (hI _ _ ht0.sl).mono ?_; rintro e w6 ⟨g100', rfl, hg0, hb6⟩
  have hx0 := hx0.below hb6; have d00 := kept hb6 d00; have d01 := kept hb6 d01; have hs0' := hs0'.below hb6; have ht0 := ht0.below hb6; have e00 := kept hb6 e00; have e01 := kept hb6 e01
  go_wp2_with fail
  refine (eqs_c hg0.sl hs0'.sl yl0).mono ?_; rintro e w7 ⟨rfl, hb7⟩
  have hx0 := hx0.below hb7; have d00 := kept hb7 d00; have d01 := kept hb7 d01; have hs0' := hs0'.below hb7; have ht0 := ht0.below hb7; have e00 := kept hb7 e00; have e01 := kept hb7 e01; have hg0 := hg0.below hb7
  go_wp2_with fail
  refine region_flow [(false, [(0, 1), (1, 1), (2, 5)]), (false, [(3, 4), (4, 0)])] (by kernel_rfl) ?_
  refine norm_K fun K hK => ?_
  change wpList _ _ _ [_, _, _] _ _
  have hb8 : Below w7.heap.size w7 w7.drew := (by repeat (first | exact Below.refl _ _ | apply blw_drew | apply blw_alloc | (refine blw_set ?_ (by first | omega | (simp; done) | (simp; omega)) _) | refine below_chain ?_ (by assumption)))
  have hx0 := hx0.below hb8; have d00 := kept hb8 d00; have d01 := kept hb8 d01; have hs0' := hs0'.below hb8; have ht0 := ht0.below hb8; have e00 := kept hb8 e00; have e01 := kept hb8 e01; have hg0 := hg0.below hb8
  go_wp2_with fail
  refine (tosp_c hx0 hl0).mono ?_; rintro e w9 ⟨u0, rfl, hu0, hb9⟩
  have hx0 := hx0.below hb9; have d00 := kept hb9 d00; have d01 := kept hb9 d01; have hs0' := hs0'.below hb9; have ht0 := ht0.below hb9; have e00 := kept hb9 e00; have e01 := kept hb9 e01; have hg0 := hg0.below hb9
  go_wp2_with fail
  first | (refine hK _ _ ⟨hb9, ?_⟩; clear hK K) | refine ⟨hb9, ?_⟩
  refine norm_K fun K hK => ?_
  change wpList _ _ _ [_, _] _ _
  go_wp2_with fail
  refine (eqsps_c ht0.sl hu0.sl hl0).mono ?_; rintro e w10 ⟨rfl, hb10⟩
  have hx0 := hx0.below hb10; have d00 := kept hb10 d00; have d01 := kept hb10 d01; have hs0' := hs0'.below hb10; have ht0 := ht0.below hb10; have e00 := kept hb10 e00; have e01 := kept hb10 e01; have hg0 := hg0.below hb10
  go_wp2_with fail
  first | (refine hK _ _ ⟨rfl, ?_⟩; clear hK K) | refine ⟨rfl, ?_⟩
  go_wp2_with fail
  have hW0 : Below w3.heap.size w3 w10 := (by repeat (first | exact Below.refl _ _ | apply blw_drew | apply blw_alloc | (refine blw_set ?_ (by first | omega | (simp; done) | (simp; omega)) _) | refine below_chain ?_ (by assumption)))
  refine (marksp_c (.inr ht0.fr) hl0 (by omega) (by omega)).mono ?_; rintro e w11 ⟨rfl, hm0_, hgr0⟩
  have hb11 := blw_mark hW0 hgr0 (fun j hj => by have e : g0 = j := Option.some.inj hj; omega); clear hW0
  have hx0 := hx0_.below hb11
  have d00 := kept hb11 d00_
  have d01 := kept hb11 d01_
  have hs0' := hs0'_.below hb11
  have e00 := farc hgr0 e00 (fun hj => absurd (Option.some.inj (show some _ = some g0 from hj)) (by omega))
  have e01 := farc hgr0 e01 (fun hj => absurd (Option.some.inj (show some _ = some g0 from hj)) (by omega))
  have hg0 := hg0.far hgr0 (fun j hj => by have e : g0 = j := Option.some.inj hj; omega)
  go_wp2_with fail
  refine (eqs_c hg0.sl hs0'.sl yl0).mono ?_; rintro e w12 ⟨rfl, hb12⟩
  have hx0 := hx0.below hb12; have d00 := kept hb12 d00; have d01 := kept hb12 d01; have hs0' := hs0'.below hb12; have e00 := kept hb12 e00; have e01 := kept hb12 e01; have hg0 := hg0.below hb12
  go_wp2_with fail
  have hWg : Below w3.heap.size w3 w12 := (by repeat (first | exact Below.refl _ _ | apply blw_drew | apply blw_alloc | (refine blw_set ?_ (by first | omega | (simp; done) | (simp; omega)) _) | refine below_chain ?_ (by assumption)))
  have lg : w3.heap.size ≤ (w4.alloc (.cells #[.int .i64 p0, .slice (some ⟨g0, 0, none⟩) sq0.length k0] 28)).heap.size := (below_le (by repeat (first | exact Below.refl _ _ | apply blw_drew | apply blw_alloc | (refine blw_set ?_ (by first | omega | (simp; done) | (simp; omega)) _) | refine below_chain ?_ (by assumption))))
  have bg := hg0.blk
  refine (mark_c hg0 yl0 (by omega) (by omega)).mono ?_; rintro e w13 ⟨rfl, hg0, hgrg⟩
  have hb13 := blw_mark hWg hgrg (fun j hj => by have := bg j hj; omega); clear hWg
  have hx0 := hx0_.below hb13
  have d00 := kept hb13 d00_
  have d01 := kept hb13 d01_
  have hs0' := hs0'_.below hb13
  go_wp2_with fail
  refine (held_c (n := y0.length) hg0.sl yl0 (by omega) (by omega)).mono ?_; rintro e w14 ⟨rfl, rfl⟩
  go_wp2_with fail
  refine (tosp_c hx0 hl0).mono ?_; rintro e w15 ⟨r0, rfl, hr0, hb15⟩
  have hx0 := hx0.below hb15; have d00 := kept hb15 d00; have d01 := kept hb15 d01; have hs0' := hs0'.below hb15; have hg0 := hg0.below hb15
  go_wp2_with fail
  refine (hI _ _ hr0.sl).mono ?_; rintro e w16 ⟨f100', rfl, hf0, hb16⟩
  have hx0 := hx0.below hb16; have d00 := kept hb16 d00; have d01 := kept hb16 d01; have hs0' := hs0'.below hb16; have hg0 := hg0.below hb16
  go_wp2_with fail
  refine (eqs_c hf0.sl hs0'.sl yl0).mono ?_; rintro e w17 ⟨rfl, hb17⟩
  have hx0 := hx0.below hb17; have d00 := kept hb17 d00; have d01 := kept hb17 d01; have hs0' := hs0'.below hb17; have hg0 := hg0.below hb17; have hf0 := hf0.below hb17
  go_wp2_with fail
  refine (held_c (n := y0.length) hg0.sl yl0 (by omega) (by omega)).mono ?_; rintro e w18 ⟨rfl, rfl⟩
  go_wp2_with fail
  go_ret
  exact ⟨rfl, (by repeat (first | exact Below.refl _ _ | apply blw_drew | apply blw_alloc | (refine blw_set ?_ (by first | omega | (simp; done) | (simp; omega)) _) | refine below_chain ?_ (by assumption)))⟩
end Go.Proofs.Ytcpeogbneliceaa
