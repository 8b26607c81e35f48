/-
  JordanUnit: the law.
-/
import Derived.Test.YtbfonghjlghncaaHcO
namespace Go.Proofs.Ytbfonghjlghncaa
open Go.RowKit

theorem RJordanUnit0_len (p : Int) (st : List Int) (_ : st.length ≤ 1048576) : Hs (RJordanUnit0 p st) := by
  unfold RJordanUnit0
  split
  · rename_i h
    have hs := (sz_le (chkH_pos h).1).2
    refine ⟨⟨by simp [unitH], by simp [unitH], fun xs hx => ?_⟩, ?_⟩
    · simp [unitH] at hx; rw [hx, List.length_replicate]; omega
    · simp [unitH, sumL]; omega
  · exact ⟨⟨by simp, by simp, fun xs hx => by simp at hx⟩, by simp [sumL]⟩
set_option maxHeartbeats 2000000 in
set_option maxRecDepth 100000 in
theorem law_JordanUnit {p0 : Int} {x0 : Value} {st0 : List Int} {w : World} (hx0 : Sl w x0 st0) (hb0_ : st0.length ≤ 9223372036854775807) :
    Calls Try.prog 6 #[.agg #[.int .i64 p0, x0]] w fun e w' => e = .returned (.bool true) ∧ Below w.heap.size w w' := by
  obtain ⟨a0, c0, rfl, _⟩ := id hx0
  obtain ⟨z0, hz0_⟩ : ∃ z, z = szI 1048576 st0.length := ⟨_, rfl⟩
  have hzb0 := szI_bd (left := 1048576) (n := st0.length) (by omega) (by omega)
  rw [← hz0_] at hzb0
  have HZ0 := Lib.hid hz0_; clear hz0_
  by_cases hs0 : z0 < 0
  case pos =>
    go_enter Try.func6, Try.ntmps6
    have hb0 : Below w.heap.size w (w.alloc (.cells #[.int .i64 p0, .slice a0 st0.length c0] 24)) := (by repeat (first | exact Below.refl _ _ | apply blw_drew | apply blw_alloc | (refine blw_set ?_ (by first | omega | (simp; done) | (simp; omega)) _) | refine below_chain ?_ (by assumption)))
    have hx0 := hx0.below hb0
    have d00 : (w.alloc (.cells #[.int .i64 p0, .slice a0 st0.length c0] 24)).cell? ⟨w.heap.size, 0, none⟩ = some (.int .i64 p0) := by simp [go_sem]
    have d01 : (w.alloc (.cells #[.int .i64 p0, .slice a0 st0.length c0] 24)).cell? ⟨w.heap.size, 1, none⟩ = some (.slice a0 st0.length c0) := by simp [go_sem]
    go_wp2_with fail
    refine (szd_c (by omega) (by omega) hb0_).mono ?_; rintro e w1 ⟨rfl, hb1⟩
    have hx0 := hx0.below hb1; have d00 := kept hb1 d00; have d01 := kept hb1 d01
    simp only [← HZ0.out]
    go_wp2_with fail
    go_ret
    exact ⟨rfl, (by repeat (first | exact Below.refl _ _ | apply blw_drew | apply blw_alloc | (refine blw_set ?_ (by first | omega | (simp; done) | (simp; omega)) _) | refine below_chain ?_ (by assumption)))⟩
  have hl0 : st0.length ≤ 1048576 := szI_pos (left := 1048576) (by omega) (by rw [← HZ0.out]; exact hs0)
  have hI := fun (W : World) (x0 : Value) (hx0 : El W x0 st0) => iJordanUnit_c (w := W) (p0 := p0) hx0 hl0
  have hS := fun (W : World) (x0 : Value) (hx0 : El W x0 st0) => sJordanUnit_c (w := W) (p0 := p0) hx0 hl0
  have yl0 := RJordanUnit0_len p0 st0 hl0
  obtain ⟨y0, hy0⟩ : ∃ y, y = RJordanUnit0 p0 st0 := ⟨_, rfl⟩
  obtain ⟨y1, hy1⟩ : ∃ y, y = RJordanUnit1 p0 st0 := ⟨_, rfl⟩
  simp only [← hy0, ← hy1] at hI hS yl0
  clear hy0 hy1
  go_enter Try.func6, Try.ntmps6
  have hb0 : Below w.heap.size w (w.alloc (.cells #[.int .i64 p0, .slice a0 st0.length c0] 24)) := (by repeat (first | exact Below.refl _ _ | apply blw_drew | apply blw_alloc | (refine blw_set ?_ (by first | omega | (simp; done) | (simp; omega)) _) | refine below_chain ?_ (by assumption)))
  have hx0 := hx0.below hb0
  have d00 : (w.alloc (.cells #[.int .i64 p0, .slice a0 st0.length c0] 24)).cell? ⟨w.heap.size, 0, none⟩ = some (.int .i64 p0) := by simp [go_sem]
  have d01 : (w.alloc (.cells #[.int .i64 p0, .slice a0 st0.length c0] 24)).cell? ⟨w.heap.size, 1, none⟩ = some (.slice a0 st0.length c0) := by simp [go_sem]
  go_wp2_with fail
  refine (szd_c (by omega) (by omega) hb0_).mono ?_; rintro e w1 ⟨rfl, hb1⟩
  have hx0 := hx0.below hb1; have d00 := kept hb1 d00; have d01 := kept hb1 d01
  simp only [← HZ0.out]
  go_wp2_with fail
  refine (tod_c hx0 hl0).mono ?_; rintro e w2 ⟨t0, rfl, ht0, hb2⟩
  have hx0 := hx0.below hb2; have d00 := kept hb2 d00; have d01 := kept hb2 d01
  go_wp2_with fail
  refine (hS _ _ ht0.el).mono ?_; rintro e w3 ⟨v0_, rfl, hs0, hb3⟩
  have hx0 := hx0.below hb3; have d00 := kept hb3 d00; have d01 := kept hb3 d01; have ht0 := ht0.below hb3
  obtain ⟨s0d, s0u, rfl, s0d_, s0u_⟩ := hs0.hv.hr; obtain ⟨s0a, s0c, rfl, _⟩ := id s0d_; obtain ⟨s0b, s0e, rfl, _⟩ := id s0u_; clear s0d_ s0u_
  have hb4 : Below w3.heap.size w3 (w3.alloc (.cells #[.slice s0a y0.dg.length s0c, .slice s0b y0.up.length s0e] 38)) := (by repeat (first | exact Below.refl _ _ | apply blw_drew | apply blw_alloc | (refine blw_set ?_ (by first | omega | (simp; done) | (simp; omega)) _) | refine below_chain ?_ (by assumption)))
  have hx0 := hx0.below hb4; have d00 := kept hb4 d00; have d01 := kept hb4 d01; have hs0 := hs0.below hb4
  have s00 : (w3.alloc (.cells #[.slice s0a y0.dg.length s0c, .slice s0b y0.up.length s0e] 38)).cell? ⟨w3.heap.size, 0, none⟩ = some (.slice s0a y0.dg.length s0c) := by simp [go_sem]
  have s01 : (w3.alloc (.cells #[.slice s0a y0.dg.length s0c, .slice s0b y0.up.length s0e] 38)).cell? ⟨w3.heap.size, 1, none⟩ = some (.slice s0b y0.up.length s0e) := by simp [go_sem]
  go_wp2_with fail
  obtain ⟨W3, hW3⟩ : ∃ W, W = (w3.alloc (.cells #[.slice s0a y0.dg.length s0c, .slice s0b y0.up.length s0e] 38)) := ⟨_, rfl⟩
  have hbW3 : Below w.heap.size w W3 := by rw [hW3]; exact (by repeat (first | exact Below.refl _ _ | apply blw_drew | apply blw_alloc | (refine blw_set ?_ (by first | omega | (simp; done) | (simp; omega)) _) | refine below_chain ?_ (by assumption)))
  rw [← hW3] at hx0 d00 d01 hs0 s00 s01 ⊢; clear hW3
  have hx0_ := hx0
  have d00_ := d00
  have d01_ := d01
  have hs0_ := hs0
  have s00_ := s00
  have s01_ := s01
  refine (tod_c hx0 hl0).mono ?_; rintro e w5 ⟨t0, rfl, ⟨g0, k0, rfl, ht0⟩, hb5⟩
  have hx0 := hx0.below hb5; have d00 := kept hb5 d00; have d01 := kept hb5 d01; have hs0 := hs0.below hb5; have s00 := kept hb5 s00; have s01 := kept hb5 s01
  have bt0 := ht0.lt; have zt0 := hb5.size; (try simp at bt0); (try simp at zt0)
  have hb6 : Below w5.heap.size w5 (w5.alloc (.cells #[.int .i64 p0, .slice (some ⟨g0, 0, none⟩) st0.length k0] 28)) := (by repeat (first | exact Below.refl _ _ | apply blw_drew | apply blw_alloc | (refine blw_set ?_ (by first | omega | (simp; done) | (simp; omega)) _) | refine below_chain ?_ (by assumption)))
  have hx0 := hx0.below hb6; have d00 := kept hb6 d00; have d01 := kept hb6 d01; have hs0 := hs0.below hb6; have s00 := kept hb6 s00; have s01 := kept hb6 s01; have ht0 := ht0.below hb6
  have e00 : (w5.alloc (.cells #[.int .i64 p0, .slice (some ⟨g0, 0, none⟩) st0.length k0] 28)).cell? ⟨w5.heap.size, 0, none⟩ = some (.int .i64 p0) := by simp [go_sem]
  have e01 : (w5.alloc (.cells #[.int .i64 p0, .slice (some ⟨g0, 0, none⟩) st0.length k0] 28)).cell? ⟨w5.heap.size, 1, none⟩ = some (.slice (some ⟨g0, 0, none⟩) st0.length k0) := by simp [go_sem]
  go_wp2_with fail
  refine (hI _ _ ht0.el).mono ?_; rintro e w7 ⟨v0_, rfl, hg0, hb7⟩
  have hx0 := hx0.below hb7; have d00 := kept hb7 d00; have d01 := kept hb7 d01; have hs0 := hs0.below hb7; have s00 := kept hb7 s00; have s01 := kept hb7 s01; have ht0 := ht0.below hb7; have e00 := kept hb7 e00; have e01 := kept hb7 e01
  have z6 := hb7.size; (try simp at z6)
  have hq0 := hg0.rg; clear hg0
  obtain ⟨g0d, g0u, rfl, g0d_, g0u_⟩ := hq0.hr; obtain ⟨g0a, g0c, rfl, _⟩ := id g0d_; obtain ⟨g0b, g0e, rfl, _⟩ := id g0u_; clear g0d_ g0u_
  have hb8 : Below w7.heap.size w7 (w7.alloc (.cells #[.slice g0a y0.dg.length g0c, .slice g0b y0.up.length g0e] 38)) := (by repeat (first | exact Below.refl _ _ | apply blw_drew | apply blw_alloc | (refine blw_set ?_ (by first | omega | (simp; done) | (simp; omega)) _) | refine below_chain ?_ (by assumption)))
  have hx0 := hx0.below hb8; have d00 := kept hb8 d00; have d01 := kept hb8 d01; have hs0 := hs0.below hb8; have s00 := kept hb8 s00; have s01 := kept hb8 s01; have ht0 := ht0.below hb8; have e00 := kept hb8 e00; have e01 := kept hb8 e01; have hq0 := hq0.below hb8
  have g00 : (w7.alloc (.cells #[.slice g0a y0.dg.length g0c, .slice g0b y0.up.length g0e] 38)).cell? ⟨w7.heap.size, 0, none⟩ = some (.slice g0a y0.dg.length g0c) := by simp [go_sem]
  have g01 : (w7.alloc (.cells #[.slice g0a y0.dg.length g0c, .slice g0b y0.up.length g0e] 38)).cell? ⟨w7.heap.size, 1, none⟩ = some (.slice g0b y0.up.length g0e) := by simp [go_sem]
  go_wp2_with fail
  refine (eqh_c hq0.hr hs0.hv.hr yl0.toHsz).mono ?_; rintro e w9 ⟨rfl, hb9⟩
  have hx0 := hx0.below hb9; have d00 := kept hb9 d00; have d01 := kept hb9 d01; have hs0 := hs0.below hb9; have s00 := kept hb9 s00; have s01 := kept hb9 s01; have ht0 := ht0.below hb9; have e00 := kept hb9 e00; have e01 := kept hb9 e01; have hq0 := hq0.below hb9; have g00 := kept hb9 g00; have g01 := kept hb9 g01
  go_wp2_with fail
  refine region_flow [(false, [(0, 1), (1, 1), (2, 5)]), (false, [(3, 4), (4, 0)])] (by kernel_rfl) ?_
  refine norm_K fun K hK => ?_
  change wpList _ _ _ [_, _, _] _ _
  have hb10 : Below w9.heap.size w9 w9.drew := (by repeat (first | exact Below.refl _ _ | apply blw_drew | apply blw_alloc | (refine blw_set ?_ (by first | omega | (simp; done) | (simp; omega)) _) | refine below_chain ?_ (by assumption)))
  have hx0 := hx0.below hb10; have d00 := kept hb10 d00; have d01 := kept hb10 d01; have hs0 := hs0.below hb10; have s00 := kept hb10 s00; have s01 := kept hb10 s01; have ht0 := ht0.below hb10; have e00 := kept hb10 e00; have e01 := kept hb10 e01; have hq0 := hq0.below hb10; have g00 := kept hb10 g00; have g01 := kept hb10 g01
  go_wp2_with fail
  refine (tod_c hx0 hl0).mono ?_; rintro e w11 ⟨u0, rfl, hu0, hb11⟩
  have hx0 := hx0.below hb11; have d00 := kept hb11 d00; have d01 := kept hb11 d01; have hs0 := hs0.below hb11; have s00 := kept hb11 s00; have s01 := kept hb11 s01; have ht0 := ht0.below hb11; have e00 := kept hb11 e00; have e01 := kept hb11 e01; have hq0 := hq0.below hb11; have g00 := kept hb11 g00; have g01 := kept hb11 g01
  go_wp2_with fail
  first | (refine hK _ _ ⟨hb11, ?_⟩; clear hK K) | refine ⟨hb11, ?_⟩
  refine norm_K fun K hK => ?_
  change wpList _ _ _ [_, _] _ _
  go_wp2_with fail
  refine (eqd_c ht0.sl hu0.sl hl0).mono ?_; rintro e w12 ⟨rfl, hb12⟩
  have hx0 := hx0.below hb12; have d00 := kept hb12 d00; have d01 := kept hb12 d01; have hs0 := hs0.below hb12; have s00 := kept hb12 s00; have s01 := kept hb12 s01; have ht0 := ht0.below hb12; have e00 := kept hb12 e00; have e01 := kept hb12 e01; have hq0 := hq0.below hb12; have g00 := kept hb12 g00; have g01 := kept hb12 g01
  go_wp2_with fail
  first | (refine hK _ _ ⟨rfl, ?_⟩; clear hK K) | refine ⟨rfl, ?_⟩
  go_wp2_with fail
  refine (markd_c (ht0.fr.ow (Nat.le_refl _)) hl0 (by omega) (by omega)).mono ?_; rintro e w13 ⟨rfl, _, hch_⟩
  have hch0 := hch_ g0 (g0 + 1) (fun j hj => by have e : g0 = j := Option.some.inj hj; omega); clear hch_
  have hb13 := hch0.blw (show Below W3.heap.size W3 w12 from (by repeat (first | exact Below.refl _ _ | apply blw_drew | apply blw_alloc | (refine blw_set ?_ (by first | omega | (simp; done) | (simp; omega)) _) | refine below_chain ?_ (by assumption)))) (by omega)
  have hx0 := hx0_.below hb13
  have d00 := kept hb13 d00_
  have d01 := kept hb13 d01_
  have hs0 := hs0_.below hb13
  have s00 := kept hb13 s00_
  have s01 := kept hb13 s01_
  have hq0 := hq0.chg hch0 (by first | omega | (simp; omega))
  have g00 := hch0.cell g00 (.inr (by first | omega | (simp; omega)))
  have g01 := hch0.cell g01 (.inr (by first | omega | (simp; omega)))
  have zw13 : W3.heap.size ≤ w13.heap.size := hb13.size
  go_wp2_with fail
  refine (eqh_c hq0.hr hs0.hv.hr yl0.toHsz).mono ?_; rintro e w14 ⟨rfl, hb14⟩
  have hx0 := hx0.below hb14; have d00 := kept hb14 d00; have d01 := kept hb14 d01; have hs0 := hs0.below hb14; have s00 := kept hb14 s00; have s01 := kept hb14 s01; have hq0 := hq0.below hb14; have g00 := kept hb14 g00; have g01 := kept hb14 g01
  go_wp2_with fail
  refine (markh_c hq0 yl0 (by omega) (by omega)).mono ?_; rintro e w15 ⟨rfl, hm0, hcg0⟩
  have hb15 := hcg0.blw (show Below W3.heap.size W3 w14 from (by repeat (first | exact Below.refl _ _ | apply blw_drew | apply blw_alloc | (refine blw_set ?_ (by first | omega | (simp; done) | (simp; omega)) _) | refine below_chain ?_ (by assumption)))) (by simp; omega)
  have hx0 := hx0_.below hb15
  have d00 := kept hb15 d00_
  have d01 := kept hb15 d01_
  have hs0 := hs0_.below hb15
  have s00 := kept hb15 s00_
  have s01 := kept hb15 s01_
  have g00 := hcg0.cell g00 (.inr (by first | exact Nat.le_refl _ | omega | (simp; omega)))
  have g01 := hcg0.cell g01 (.inr (by first | exact Nat.le_refl _ | omega | (simp; omega)))
  go_wp2_with fail
  refine (heldh_c hm0 yl0 (by omega) (by omega)).mono ?_; rintro e w16 ⟨rfl, hb16⟩
  have hx0 := hx0.below hb16; have d00 := kept hb16 d00; have d01 := kept hb16 d01; have hs0 := hs0.below hb16; have s00 := kept hb16 s00; have s01 := kept hb16 s01; have hm0 := hm0.below hb16; have g00 := kept hb16 g00; have g01 := kept hb16 g01
  go_wp2_with fail
  refine (tod_c hx0 hl0).mono ?_; rintro e w17 ⟨r0, rfl, hr0, hb17⟩
  have hx0 := hx0.below hb17; have d00 := kept hb17 d00; have d01 := kept hb17 d01; have hs0 := hs0.below hb17; have s00 := kept hb17 s00; have s01 := kept hb17 s01; have hm0 := hm0.below hb17; have g00 := kept hb17 g00; have g01 := kept hb17 g01
  go_wp2_with fail
  refine (hI _ _ hr0.el).mono ?_; rintro e w18 ⟨v0_, rfl, hf0, hb18⟩
  have hx0 := hx0.below hb18; have d00 := kept hb18 d00; have d01 := kept hb18 d01; have hs0 := hs0.below hb18; have s00 := kept hb18 s00; have s01 := kept hb18 s01; have hm0 := hm0.below hb18; have g00 := kept hb18 g00; have g01 := kept hb18 g01; have hr0 := hr0.below hb18
  obtain ⟨f0d, f0u, rfl, f0d_, f0u_⟩ := hf0.hv.hr; obtain ⟨f0a, f0c, rfl, _⟩ := id f0d_; obtain ⟨f0b, f0e, rfl, _⟩ := id f0u_; clear f0d_ f0u_
  have hb19 : Below w18.heap.size w18 (w18.alloc (.cells #[.slice f0a y0.dg.length f0c, .slice f0b y0.up.length f0e] 38)) := (by repeat (first | exact Below.refl _ _ | apply blw_drew | apply blw_alloc | (refine blw_set ?_ (by first | omega | (simp; done) | (simp; omega)) _) | refine below_chain ?_ (by assumption)))
  have hx0 := hx0.below hb19; have d00 := kept hb19 d00; have d01 := kept hb19 d01; have hs0 := hs0.below hb19; have s00 := kept hb19 s00; have s01 := kept hb19 s01; have hm0 := hm0.below hb19; have g00 := kept hb19 g00; have g01 := kept hb19 g01; have hf0 := hf0.below hb19
  have f00 : (w18.alloc (.cells #[.slice f0a y0.dg.length f0c, .slice f0b y0.up.length f0e] 38)).cell? ⟨w18.heap.size, 0, none⟩ = some (.slice f0a y0.dg.length f0c) := by simp [go_sem]
  have f01 : (w18.alloc (.cells #[.slice f0a y0.dg.length f0c, .slice f0b y0.up.length f0e] 38)).cell? ⟨w18.heap.size, 1, none⟩ = some (.slice f0b y0.up.length f0e) := by simp [go_sem]
  go_wp2_with fail
  refine (eqh_c hf0.hv.hr hs0.hv.hr yl0.toHsz).mono ?_; rintro e w20 ⟨rfl, hb20⟩
  have hx0 := hx0.below hb20; have d00 := kept hb20 d00; have d01 := kept hb20 d01; have hs0 := hs0.below hb20; have s00 := kept hb20 s00; have s01 := kept hb20 s01; have hm0 := hm0.below hb20; have g00 := kept hb20 g00; have g01 := kept hb20 g01; have hf0 := hf0.below hb20; have f00 := kept hb20 f00; have f01 := kept hb20 f01
  go_wp2_with fail
  refine (heldh_c hm0 yl0 (by omega) (by omega)).mono ?_; rintro e w21 ⟨rfl, hb21⟩
  have hx0 := hx0.below hb21; have d00 := kept hb21 d00; have d01 := kept hb21 d01; have hs0 := hs0.below hb21; have s00 := kept hb21 s00; have s01 := kept hb21 s01; have hm0 := hm0.below hb21; have g00 := kept hb21 g00; have g01 := kept hb21 g01; have hf0 := hf0.below hb21; have f00 := kept hb21 f00; have f01 := kept hb21 f01
  go_wp2_with fail
  go_ret
  exact ⟨rfl, below_chain hbW3 (by repeat (first | exact Below.refl _ _ | apply blw_drew | apply blw_alloc | (refine blw_set ?_ (by first | omega | (simp; done) | (simp; omega)) _) | refine below_chain ?_ (by assumption)))⟩
end Go.Proofs.Ytbfonghjlghncaa
