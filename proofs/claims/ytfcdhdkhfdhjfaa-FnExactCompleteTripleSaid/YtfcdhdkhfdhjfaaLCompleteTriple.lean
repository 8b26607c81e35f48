/-
  The law FnExactCompleteTriple.
-/
import Derived.Test.YtfcdhdkhfdhjfaaCtM
import Derived.Test.YtfcdhdkhfdhjfaaJbe
namespace Go.Proofs.Ytfcdhdkhfdhjfaa
open Go.RowKit

set_option maxHeartbeats 4000000 in
set_option maxRecDepth 100000 in
theorem law_CompleteTriple {p0 : Int} {x0 : Value} {st0 : List Int} {x1 : Value} {M1 : List (List Int)} {w : World} (hx0 : Sl w x0 st0) (hb0_ : st0.length ≤ 9223372036854775807) (hx1 : Rs w x1 M1) (hb1_ : Mbig M1) :
    Calls Try.prog 3 #[.agg #[.int .i64 p0, x0], x1] w fun e w' => e = .returned (.bool true) ∧ Below w.heap.size w w' := by
  obtain ⟨a0, c0, rfl, _⟩ := id hx0
  obtain ⟨a1, c1, rfl, _⟩ := id hx1
  obtain ⟨z0, hz0_⟩ : ∃ z, z = szI 1048576 st0.length := ⟨_, rfl⟩
  have hzb0 := szI_bd (left := 1048576) (n := st0.length) (by omega) (by omega)
  rw [← hz0_] at hzb0
  have HZ0 := Lib.hid hz0_; clear hz0_
  by_cases hs0 : z0 < 0
  case pos =>
    go_enter Try.func3, Try.ntmps3
    have hb0 : Below w.heap.size w (w.alloc (.cells #[.int .i64 p0, .slice a0 st0.length c0] 24)) := (by repeat (first | exact .refl _ _ | apply bwD | apply bwA | (refine bwS ?_ (by first | omega | simp <;> omega) _) | refine bwC ?_ (by assumption)))
    have hx0 := hx0.below hb0; have hx1 := hx1.below hb0
    have d00 : (w.alloc (.cells #[.int .i64 p0, .slice a0 st0.length c0] 24)).cell? ⟨w.heap.size, 0, none⟩ = some (.int .i64 p0) := by simp [go_sem]
    have d01 : (w.alloc (.cells #[.int .i64 p0, .slice a0 st0.length c0] 24)).cell? ⟨w.heap.size, 1, none⟩ = some (.slice a0 st0.length c0) := by simp [go_sem]
    go_wp2_with fail
    refine (szd_c (by omega) (by omega) hb0_).mono ?_; rintro e w1 ⟨rfl, hb1⟩
    have hx0 := hx0.below hb1; have hx1 := hx1.below hb1; have d00 := kept hb1 d00; have d01 := kept hb1 d01
    simp only [← HZ0.out]
    go_wp2_with fail
    go_ret
    exact ⟨rfl, (by repeat (first | exact .refl _ _ | apply bwD | apply bwA | (refine bwS ?_ (by first | omega | simp <;> omega) _) | refine bwC ?_ (by assumption)))⟩
  have hl0 : st0.length ≤ 1048576 := szI_pos (left := 1048576) (by omega) (by rw [← HZ0.out]; exact hs0)
  obtain ⟨z1, hz1_⟩ : ∃ z, z = szR z0 M1 := ⟨_, rfl⟩
  have hzb1 := szR_bd (left := z0) (xss := M1) (by omega) (by omega)
  rw [← hz1_] at hzb1
  have HZ1 := Lib.hid hz1_; clear hz1_
  by_cases hs1 : z1 < 0
  case pos =>
    go_enter Try.func3, Try.ntmps3
    have hb0 : Below w.heap.size w (w.alloc (.cells #[.int .i64 p0, .slice a0 st0.length c0] 24)) := (by repeat (first | exact .refl _ _ | apply bwD | apply bwA | (refine bwS ?_ (by first | omega | simp <;> omega) _) | refine bwC ?_ (by assumption)))
    have hx0 := hx0.below hb0; have hx1 := hx1.below hb0
    have d00 : (w.alloc (.cells #[.int .i64 p0, .slice a0 st0.length c0] 24)).cell? ⟨w.heap.size, 0, none⟩ = some (.int .i64 p0) := by simp [go_sem]
    have d01 : (w.alloc (.cells #[.int .i64 p0, .slice a0 st0.length c0] 24)).cell? ⟨w.heap.size, 1, none⟩ = some (.slice a0 st0.length c0) := by simp [go_sem]
    go_wp2_with fail
    refine (szd_c (by omega) (by omega) hb0_).mono ?_; rintro e w1 ⟨rfl, hb1⟩
    have hx0 := hx0.below hb1; have hx1 := hx1.below hb1; have d00 := kept hb1 d00; have d01 := kept hb1 d01
    simp only [← HZ0.out]
    go_wp2_with fail
    refine (szm_c hx1 hb1_ (by omega) (by omega)).mono ?_; rintro e w2 ⟨rfl, hb2⟩
    have hx0 := hx0.below hb2; have hx1 := hx1.below hb2; have d00 := kept hb2 d00; have d01 := kept hb2 d01
    simp only [← HZ1.out]
    go_wp2_with fail
    go_ret
    exact ⟨rfl, (by repeat (first | exact .refl _ _ | apply bwD | apply bwA | (refine bwS ?_ (by first | omega | simp <;> omega) _) | refine bwC ?_ (by assumption)))⟩
  have hl1 : Msz M1 := szM_ms (left := z0) (by omega) (by omega) (by rw [← HZ1.out]; exact hs1)
  have hI := fun (W : World) (x0 : Value) (hx0 : El W x0 st0) (x1 : Value) (hx1 : Re W x1 M1) => iCompleteTriple_c (w := W) (p := p0) hx0 hl0 hx1 hl1
  have hS := fun (W : World) (x0 : Value) (hx0 : El W x0 st0) (x1 : Value) (hx1 : Re W x1 M1) => sCompleteTriple_c (w := W) (p := p0) hx0 hl0 hx1 hl1
  have yl0 := RCompleteTriple0_len p0 st0 M1 hl0 hl1
  obtain ⟨y0, hy0⟩ : ∃ y, y = RCompleteTriple0 p0 st0 M1 := ⟨_, rfl⟩
  obtain ⟨y1, hy1⟩ : ∃ y, y = RCompleteTriple1 p0 st0 M1 := ⟨_, rfl⟩
  simp only [← hy0, ← hy1] at hI hS yl0
  clear hy0 hy1
  go_enter Try.func3, Try.ntmps3
  have hb0 : Below w.heap.size w (w.alloc (.cells #[.int .i64 p0, .slice a0 st0.length c0] 24)) := (by repeat (first | exact .refl _ _ | apply bwD | apply bwA | (refine bwS ?_ (by first | omega | simp <;> omega) _) | refine bwC ?_ (by assumption)))
  have hx0 := hx0.below hb0; have hx1 := hx1.below hb0
  have d00 : (w.alloc (.cells #[.int .i64 p0, .slice a0 st0.length c0] 24)).cell? ⟨w.heap.size, 0, none⟩ = some (.int .i64 p0) := by simp [go_sem]
  have d01 : (w.alloc (.cells #[.int .i64 p0, .slice a0 st0.length c0] 24)).cell? ⟨w.heap.size, 1, none⟩ = some (.slice a0 st0.length c0) := by simp [go_sem]
  go_wp2_with fail
  refine (szd_c (by omega) (by omega) hb0_).mono ?_; rintro e w1 ⟨rfl, hb1⟩
  have hx0 := hx0.below hb1; have hx1 := hx1.below hb1; have d00 := kept hb1 d00; have d01 := kept hb1 d01
  simp only [← HZ0.out]
  go_wp2_with fail
  refine (szm_c hx1 hb1_ (by omega) (by omega)).mono ?_; rintro e w2 ⟨rfl, hb2⟩
  have hx0 := hx0.below hb2; have hx1 := hx1.below hb2; have d00 := kept hb2 d00; have d01 := kept hb2 d01
  simp only [← HZ1.out]
  go_wp2_with fail
  refine (tod_c hx0 hl0).mono ?_; rintro e w3 ⟨t0, rfl, ht0, hb3⟩
  have hx0 := hx0.below hb3; have hx1 := hx1.below hb3; have d00 := kept hb3 d00; have d01 := kept hb3 d01
  go_wp2_with fail
  refine (tom_c hx1 hl1).mono ?_; rintro e w4 ⟨t1, uq1, rfl, ht1, hb4⟩
  have hx0 := hx0.below hb4; have hx1 := hx1.below hb4; have d00 := kept hb4 d00; have d01 := kept hb4 d01; have ht0 := ht0.below hb4
  go_wp2_with fail
  refine (hS _ _ ht0.el _ ht1.re).mono ?_; rintro e w5 ⟨va, vb, vc, rfl, hs0, hb5⟩
  have hx0 := hx0.below hb5; have hx1 := hx1.below hb5; have d00 := kept hb5 d00; have d01 := kept hb5 d01; have ht0 := ht0.below hb5; have ht1 := ht1.below hb5
  obtain ⟨hs0A, hs0B, hs0C⟩ := hs0
  obtain ⟨q3a, q3d, rfl, _⟩ := id hs0A
  obtain ⟨q3b, q3e, rfl, _⟩ := id hs0B
  obtain ⟨q3c, q3f, rfl, _⟩ := id hs0C
  have hs0 : Tri w5 (.agg #[.slice q3a y0.A.length q3d, .slice q3b y0.B.length q3e, .slice q3c y0.C.length q3f]) y0.A y0.B y0.C := ⟨_, _, _, rfl, hs0A, hs0B, hs0C⟩
  clear hs0A hs0B hs0C
  have hb6 : Below w5.heap.size w5 (w5.alloc (.cells #[.slice q3a y0.A.length q3d, .slice q3b y0.B.length q3e, .slice q3c y0.C.length q3f] 29)) := (by repeat (first | exact .refl _ _ | apply bwD | apply bwA | (refine bwS ?_ (by first | omega | simp <;> omega) _) | refine bwC ?_ (by assumption)))
  have hx0 := hx0.below hb6; have hx1 := hx1.below hb6; have d00 := kept hb6 d00; have d01 := kept hb6 d01; have hs0 := hs0.below hb6
  have hsc00 : (w5.alloc (.cells #[.slice q3a y0.A.length q3d, .slice q3b y0.B.length q3e, .slice q3c y0.C.length q3f] 29)).cell? ⟨w5.heap.size, 0, none⟩ = some (.slice q3a y0.A.length q3d) := by simp [go_sem]
  have hsc01 : (w5.alloc (.cells #[.slice q3a y0.A.length q3d, .slice q3b y0.B.length q3e, .slice q3c y0.C.length q3f] 29)).cell? ⟨w5.heap.size, 1, none⟩ = some (.slice q3b y0.B.length q3e) := by simp [go_sem]
  have hsc02 : (w5.alloc (.cells #[.slice q3a y0.A.length q3d, .slice q3b y0.B.length q3e, .slice q3c y0.C.length q3f] 29)).cell? ⟨w5.heap.size, 2, none⟩ = some (.slice q3c y0.C.length q3f) := by simp [go_sem]
  go_wp2_with fail
  obtain ⟨W3, hW3⟩ : ∃ W, W = (w5.alloc (.cells #[.slice q3a y0.A.length q3d, .slice q3b y0.B.length q3e, .slice q3c y0.C.length q3f] 29)) := ⟨_, rfl⟩
  have hbW3 : Below w.heap.size w W3 := by rw [hW3]; exact (by repeat (first | exact .refl _ _ | apply bwD | apply bwA | (refine bwS ?_ (by first | omega | simp <;> omega) _) | refine bwC ?_ (by assumption)))
  rw [← hW3] at hx0 hx1 d00 d01 hs0 hsc00 hsc01 hsc02 ⊢; clear hW3
  have hx0_ := hx0
  have hx1_ := hx1
  have d00_ := d00
  have d01_ := d01
  have hs0_ := hs0
  have hsc00_ := hsc00
  have hsc01_ := hsc01
  have hsc02_ := hsc02
  refine (tod_c hx0 hl0).mono ?_; rintro e w7 ⟨t0, rfl, ⟨g0, k0, rfl, ht0⟩, hb7⟩
  have hx0 := hx0.below hb7; have hx1 := hx1.below hb7; have d00 := kept hb7 d00; have d01 := kept hb7 d01; have hs0 := hs0.below hb7; have hsc00 := kept hb7 hsc00; have hsc01 := kept hb7 hsc01; have hsc02 := kept hb7 hsc02
  have bt0 := ht0.lt; have zt0 := hb7.size; (try simp at bt0); (try simp at zt0)
  have hb8 : Below w7.heap.size w7 (w7.alloc (.cells #[.int .i64 p0, .slice (some ⟨g0, 0, none⟩) st0.length k0] 32)) := (by repeat (first | exact .refl _ _ | apply bwD | apply bwA | (refine bwS ?_ (by first | omega | simp <;> omega) _) | refine bwC ?_ (by assumption)))
  have hx0 := hx0.below hb8; have hx1 := hx1.below hb8; have d00 := kept hb8 d00; have d01 := kept hb8 d01; have hs0 := hs0.below hb8; have hsc00 := kept hb8 hsc00; have hsc01 := kept hb8 hsc01; have hsc02 := kept hb8 hsc02; have ht0 := ht0.below hb8
  have e00 : (w7.alloc (.cells #[.int .i64 p0, .slice (some ⟨g0, 0, none⟩) st0.length k0] 32)).cell? ⟨w7.heap.size, 0, none⟩ = some (.int .i64 p0) := by simp [go_sem]
  have e01 : (w7.alloc (.cells #[.int .i64 p0, .slice (some ⟨g0, 0, none⟩) st0.length k0] 32)).cell? ⟨w7.heap.size, 1, none⟩ = some (.slice (some ⟨g0, 0, none⟩) st0.length k0) := by simp [go_sem]
  go_wp2_with fail
  refine (tom_c hx1 hl1).mono ?_; rintro e w9 ⟨t1, us1, rfl, ht1, hb9⟩
  have hx0 := hx0.below hb9; have hx1 := hx1.below hb9; have d00 := kept hb9 d00; have d01 := kept hb9 d01; have hs0 := hs0.below hb9; have hsc00 := kept hb9 hsc00; have hsc01 := kept hb9 hsc01; have hsc02 := kept hb9 hsc02; have ht0 := ht0.below hb9; have e00 := kept hb9 e00; have e01 := kept hb9 e01
  have hk1 := ht1.rg; have zt1 := hb9.size; (try simp at zt1)
  obtain ⟨ta1, tc1, rfl, _⟩ := id ht1.re
  go_wp2_with fail
  refine (hI _ _ ht0.el _ ht1.re).mono ?_; rintro e w10 ⟨va, vb, vc, rfl, hg0, hb10⟩
  have hx0 := hx0.below hb10; have hx1 := hx1.below hb10; have d00 := kept hb10 d00; have d01 := kept hb10 d01; have hs0 := hs0.below hb10; have hsc00 := kept hb10 hsc00; have hsc01 := kept hb10 hsc01; have hsc02 := kept hb10 hsc02; have ht0 := ht0.below hb10; have e00 := kept hb10 e00; have e01 := kept hb10 e01; have ht1 := ht1.below hb10; have hk1 := hk1.below hb10
  have z6 := hb10.size; (try simp at z6)
  have hq0 := hg0.top; clear hg0
  obtain ⟨_, _, _, e_, hq0A, hq0B, hq0C⟩ := id hq0.tri; cases e_
  obtain ⟨g0a, g0d, rfl, _⟩ := id hq0A
  obtain ⟨g0b, g0e, rfl, _⟩ := id hq0B
  obtain ⟨g0c, g0f, rfl, _⟩ := id hq0C
  clear hq0A hq0B hq0C
  have hb11 : Below w10.heap.size w10 (w10.alloc (.cells #[.slice g0a y0.A.length g0d, .slice g0b y0.B.length g0e, .slice g0c y0.C.length g0f] 29)) := (by repeat (first | exact .refl _ _ | apply bwD | apply bwA | (refine bwS ?_ (by first | omega | simp <;> omega) _) | refine bwC ?_ (by assumption)))
  have hx0 := hx0.below hb11; have hx1 := hx1.below hb11; have d00 := kept hb11 d00; have d01 := kept hb11 d01; have hs0 := hs0.below hb11; have hsc00 := kept hb11 hsc00; have hsc01 := kept hb11 hsc01; have hsc02 := kept hb11 hsc02; have ht0 := ht0.below hb11; have e00 := kept hb11 e00; have e01 := kept hb11 e01; have ht1 := ht1.below hb11; have hk1 := hk1.below hb11; have hq0 := hq0.below hb11
  have g00 : (w10.alloc (.cells #[.slice g0a y0.A.length g0d, .slice g0b y0.B.length g0e, .slice g0c y0.C.length g0f] 29)).cell? ⟨w10.heap.size, 0, none⟩ = some (.slice g0a y0.A.length g0d) := by simp [go_sem]
  have g01 : (w10.alloc (.cells #[.slice g0a y0.A.length g0d, .slice g0b y0.B.length g0e, .slice g0c y0.C.length g0f] 29)).cell? ⟨w10.heap.size, 1, none⟩ = some (.slice g0b y0.B.length g0e) := by simp [go_sem]
  have g02 : (w10.alloc (.cells #[.slice g0a y0.A.length g0d, .slice g0b y0.B.length g0e, .slice g0c y0.C.length g0f] 29)).cell? ⟨w10.heap.size, 2, none⟩ = some (.slice g0c y0.C.length g0f) := by simp [go_sem]
  go_wp2_with fail
  refine (eqt_c hq0.tri hs0 yl0.tsz).mono ?_; rintro e w12 ⟨rfl, hb12⟩
  have hx0 := hx0.below hb12; have hx1 := hx1.below hb12; have d00 := kept hb12 d00; have d01 := kept hb12 d01; have hs0 := hs0.below hb12; have hsc00 := kept hb12 hsc00; have hsc01 := kept hb12 hsc01; have hsc02 := kept hb12 hsc02; have ht0 := ht0.below hb12; have e00 := kept hb12 e00; have e01 := kept hb12 e01; have ht1 := ht1.below hb12; have hk1 := hk1.below hb12; have hq0 := hq0.below hb12; have g00 := kept hb12 g00; have g01 := kept hb12 g01; have g02 := kept hb12 g02
  go_wp2_with fail
  refine region_flow [(false, [(0, 1), (1, 1), (2, 5)]), (false, [(3, 4), (4, 0)])] (by kernel_rfl) ?_
  have hb13 : Below w12.heap.size w12 w12.drew := (by repeat (first | exact .refl _ _ | apply bwD | apply bwA | (refine bwS ?_ (by first | omega | simp <;> omega) _) | refine bwC ?_ (by assumption)))
  have hx0 := hx0.below hb13; have hx1 := hx1.below hb13; have d00 := kept hb13 d00; have d01 := kept hb13 d01; have hs0 := hs0.below hb13; have hsc00 := kept hb13 hsc00; have hsc01 := kept hb13 hsc01; have hsc02 := kept hb13 hsc02; have ht0 := ht0.below hb13; have e00 := kept hb13 e00; have e01 := kept hb13 e01; have ht1 := ht1.below hb13; have hk1 := hk1.below hb13; have hq0 := hq0.below hb13; have g00 := kept hb13 g00; have g01 := kept hb13 g01; have g02 := kept hb13 g02
  generalize w12.drew = wr0 at *
  refine norm_K fun K hK => ?_
  change wpList _ _ _ [_, _, _] _ _
  go_wp2_with fail
  refine (tod_c hx0 hl0).mono ?_; rintro e w14 ⟨u0, rfl, hu0, hb14⟩
  have hx0 := hx0.below hb14; have hx1 := hx1.below hb14; have d00 := kept hb14 d00; have d01 := kept hb14 d01; have hs0 := hs0.below hb14; have hsc00 := kept hb14 hsc00; have hsc01 := kept hb14 hsc01; have hsc02 := kept hb14 hsc02; have ht0 := ht0.below hb14; have e00 := kept hb14 e00; have e01 := kept hb14 e01; have ht1 := ht1.below hb14; have hk1 := hk1.below hb14; have hq0 := hq0.below hb14; have g00 := kept hb14 g00; have g01 := kept hb14 g01; have g02 := kept hb14 g02
  go_wp2_with fail
  first | (refine hK _ _ ⟨hb14, ?_⟩; clear hK K) | refine ⟨hb14, ?_⟩
  refine norm_K fun K hK => ?_
  change wpList _ _ _ [_, _] _ _
  go_wp2_with fail
  refine (eqd_c ht0.sl hu0.sl hl0).mono ?_; rintro e w15 ⟨rfl, hb15⟩
  have hx0 := hx0.below hb15; have hx1 := hx1.below hb15; have d00 := kept hb15 d00; have d01 := kept hb15 d01; have hs0 := hs0.below hb15; have hsc00 := kept hb15 hsc00; have hsc01 := kept hb15 hsc01; have hsc02 := kept hb15 hsc02; have ht0 := ht0.below hb15; have e00 := kept hb15 e00; have e01 := kept hb15 e01; have ht1 := ht1.below hb15; have hk1 := hk1.below hb15; have hq0 := hq0.below hb15; have g00 := kept hb15 g00; have g01 := kept hb15 g01; have g02 := kept hb15 g02
  go_wp2_with fail
  first | (refine hK _ _ ⟨rfl, ?_⟩; clear hK K) | refine ⟨rfl, ?_⟩
  go_wp2_with fail
  refine (tom_c hx1 hl1).mono ?_; rintro e w16 ⟨u1, uu1, rfl, hu1, hb16⟩
  have hx0 := hx0.below hb16; have hx1 := hx1.below hb16; have d00 := kept hb16 d00; have d01 := kept hb16 d01; have hs0 := hs0.below hb16; have hsc00 := kept hb16 hsc00; have hsc01 := kept hb16 hsc01; have hsc02 := kept hb16 hsc02; have ht0 := ht0.below hb16; have e00 := kept hb16 e00; have e01 := kept hb16 e01; have ht1 := ht1.below hb16; have hk1 := hk1.below hb16; have hq0 := hq0.below hb16; have g00 := kept hb16 g00; have g01 := kept hb16 g01; have g02 := kept hb16 g02
  go_wp2_with fail
  refine (eqm_c ht1.rs hu1.rs hl1).mono ?_; rintro e w17 ⟨rfl, hb17⟩
  have hx0 := hx0.below hb17; have hx1 := hx1.below hb17; have d00 := kept hb17 d00; have d01 := kept hb17 d01; have hs0 := hs0.below hb17; have hsc00 := kept hb17 hsc00; have hsc01 := kept hb17 hsc01; have hsc02 := kept hb17 hsc02; have ht0 := ht0.below hb17; have e00 := kept hb17 e00; have e01 := kept hb17 e01; have ht1 := ht1.below hb17; have hk1 := hk1.below hb17; have hq0 := hq0.below hb17; have g00 := kept hb17 g00; have g01 := kept hb17 g01; have g02 := kept hb17 g02
  go_wp2_with fail
  refine (markd_c (ht0.fr.ow (Nat.le_refl _)) hl0 (by omega) (by omega)).mono ?_; rintro e w18 ⟨rfl, _, hch_⟩
  have hch0 := hch_ g0 (g0 + 1) (fun j hj => by have e : g0 = j := Option.some.inj hj; omega); clear hch_
  have hb18 := hch0.blw (show Below W3.heap.size W3 w17 from (by repeat (first | exact .refl _ _ | apply bwD | apply bwA | (refine bwS ?_ (by first | omega | simp <;> omega) _) | refine bwC ?_ (by assumption)))) (by first | omega | simp <;> omega)
  have hx0 := hx0_.below hb18
  have hx1 := hx1_.below hb18
  have d00 := kept hb18 d00_
  have d01 := kept hb18 d01_
  have hs0 := hs0_.below hb18
  have hsc00 := kept hb18 hsc00_
  have hsc01 := kept hb18 hsc01_
  have hsc02 := kept hb18 hsc02_
  have hk1 := hk1.chg hch0 (by first | omega | simp <;> omega)
  have hq0 := hq0.chg hch0 (by first | omega | simp <;> omega)
  have g00 := hch0.cell g00 (.inr (by first | omega | simp <;> omega))
  have g01 := hch0.cell g01 (.inr (by first | omega | simp <;> omega))
  have g02 := hch0.cell g02 (.inr (by first | omega | simp <;> omega))
  have zw18 : W3.heap.size ≤ w18.heap.size := hb18.size
  go_wp2_with fail
  have hS11 := hl1.sum
  refine (markm_c hk1 hl1 (by omega) (by omega)).mono ?_; rintro e w19 ⟨rfl, _, hch1⟩
  have hb19 := hch1.blw (show Below W3.heap.size W3 w18 from (by repeat (first | exact .refl _ _ | apply bwD | apply bwA | (refine bwS ?_ (by first | omega | simp <;> omega) _) | refine bwC ?_ (by assumption)))) (by first | omega | simp <;> omega)
  have hx0 := hx0_.below hb19
  have hx1 := hx1_.below hb19
  have d00 := kept hb19 d00_
  have d01 := kept hb19 d01_
  have hs0 := hs0_.below hb19
  have hsc00 := kept hb19 hsc00_
  have hsc01 := kept hb19 hsc01_
  have hsc02 := kept hb19 hsc02_
  have hq0 := hq0.chg hch1 (by first | omega | simp <;> omega)
  have g00 := hch1.cell g00 (.inr (by first | omega | simp <;> omega))
  have g01 := hch1.cell g01 (.inr (by first | omega | simp <;> omega))
  have g02 := hch1.cell g02 (.inr (by first | omega | simp <;> omega))
  have zw19 : W3.heap.size ≤ w19.heap.size := hb19.size
  have hmk : True := trivial
  go_wp2_with fail
  refine (eqt_c hq0.tri hs0 yl0.tsz).mono ?_; rintro e w20 ⟨rfl, hb20⟩
  have hx0 := hx0.below hb20; have hx1 := hx1.below hb20; have d00 := kept hb20 d00; have d01 := kept hb20 d01; have hs0 := hs0.below hb20; have hsc00 := kept hb20 hsc00; have hsc01 := kept hb20 hsc01; have hsc02 := kept hb20 hsc02; have hq0 := hq0.below hb20; have g00 := kept hb20 g00; have g01 := kept hb20 g01; have g02 := kept hb20 g02
  go_wp2_with fail
  refine (markt_c hq0 yl0 (by omega) (by omega)).mono ?_; rintro e w21 ⟨rfl, hm0, hcg0⟩
  have hb21 := hcg0.blw (show Below W3.heap.size W3 w20 from (by repeat (first | exact .refl _ _ | apply bwD | apply bwA | (refine bwS ?_ (by first | omega | simp <;> omega) _) | refine bwC ?_ (by assumption)))) (by first | omega | simp <;> omega)
  have hx0 := hx0_.below hb21
  have hx1 := hx1_.below hb21
  have d00 := kept hb21 d00_
  have d01 := kept hb21 d01_
  have hs0 := hs0_.below hb21
  have hsc00 := kept hb21 hsc00_
  have hsc01 := kept hb21 hsc01_
  have hsc02 := kept hb21 hsc02_
  have g00 := hcg0.cell g00 (.inr (by first | exact Nat.le_refl _ | omega | (simp; omega)))
  have g01 := hcg0.cell g01 (.inr (by first | exact Nat.le_refl _ | omega | (simp; omega)))
  have g02 := hcg0.cell g02 (.inr (by first | exact Nat.le_refl _ | omega | (simp; omega)))
  go_wp2_with fail
  refine (heldt_c hm0.tri yl0 (by omega) (by omega)).mono ?_; rintro e w22 ⟨rfl, hb22⟩
  have hx0 := hx0.below hb22; have hx1 := hx1.below hb22; have d00 := kept hb22 d00; have d01 := kept hb22 d01; have hs0 := hs0.below hb22; have hsc00 := kept hb22 hsc00; have hsc01 := kept hb22 hsc01; have hsc02 := kept hb22 hsc02; have hm0 := hm0.below hb22; have g00 := kept hb22 g00; have g01 := kept hb22 g01; have g02 := kept hb22 g02
  go_wp2_with fail
  refine (tod_c hx0 hl0).mono ?_; rintro e w23 ⟨t0, rfl, ht0, hb23⟩
  have hx0 := hx0.below hb23; have hx1 := hx1.below hb23; have d00 := kept hb23 d00; have d01 := kept hb23 d01; have hs0 := hs0.below hb23; have hsc00 := kept hb23 hsc00; have hsc01 := kept hb23 hsc01; have hsc02 := kept hb23 hsc02; have hm0 := hm0.below hb23; have g00 := kept hb23 g00; have g01 := kept hb23 g01; have g02 := kept hb23 g02
  go_wp2_with fail
  refine (tom_c hx1 hl1).mono ?_; rintro e w24 ⟨t1, uq1, rfl, ht1, hb24⟩
  have hx0 := hx0.below hb24; have hx1 := hx1.below hb24; have d00 := kept hb24 d00; have d01 := kept hb24 d01; have hs0 := hs0.below hb24; have hsc00 := kept hb24 hsc00; have hsc01 := kept hb24 hsc01; have hsc02 := kept hb24 hsc02; have hm0 := hm0.below hb24; have g00 := kept hb24 g00; have g01 := kept hb24 g01; have g02 := kept hb24 g02; have ht0 := ht0.below hb24
  go_wp2_with fail
  refine (hI _ _ ht0.el _ ht1.re).mono ?_; rintro e w25 ⟨va, vb, vc, rfl, hf0, hb25⟩
  have hx0 := hx0.below hb25; have hx1 := hx1.below hb25; have d00 := kept hb25 d00; have d01 := kept hb25 d01; have hs0 := hs0.below hb25; have hsc00 := kept hb25 hsc00; have hsc01 := kept hb25 hsc01; have hsc02 := kept hb25 hsc02; have hm0 := hm0.below hb25; have g00 := kept hb25 g00; have g01 := kept hb25 g01; have g02 := kept hb25 g02; have ht0 := ht0.below hb25; have ht1 := ht1.below hb25
  have hf0 := hf0.top
  obtain ⟨_, _, _, e_, hf0A, hf0B, hf0C⟩ := id hf0.tri; cases e_
  obtain ⟨q5a, q5d, rfl, _⟩ := id hf0A
  obtain ⟨q5b, q5e, rfl, _⟩ := id hf0B
  obtain ⟨q5c, q5f, rfl, _⟩ := id hf0C
  clear hf0A hf0B hf0C
  have hb26 : Below w25.heap.size w25 (w25.alloc (.cells #[.slice q5a y0.A.length q5d, .slice q5b y0.B.length q5e, .slice q5c y0.C.length q5f] 29)) := (by repeat (first | exact .refl _ _ | apply bwD | apply bwA | (refine bwS ?_ (by first | omega | simp <;> omega) _) | refine bwC ?_ (by assumption)))
  have hx0 := hx0.below hb26; have hx1 := hx1.below hb26; have d00 := kept hb26 d00; have d01 := kept hb26 d01; have hs0 := hs0.below hb26; have hsc00 := kept hb26 hsc00; have hsc01 := kept hb26 hsc01; have hsc02 := kept hb26 hsc02; have hm0 := hm0.below hb26; have g00 := kept hb26 g00; have g01 := kept hb26 g01; have g02 := kept hb26 g02; have hf0 := hf0.below hb26
  have hfc00 : (w25.alloc (.cells #[.slice q5a y0.A.length q5d, .slice q5b y0.B.length q5e, .slice q5c y0.C.length q5f] 29)).cell? ⟨w25.heap.size, 0, none⟩ = some (.slice q5a y0.A.length q5d) := by simp [go_sem]
  have hfc01 : (w25.alloc (.cells #[.slice q5a y0.A.length q5d, .slice q5b y0.B.length q5e, .slice q5c y0.C.length q5f] 29)).cell? ⟨w25.heap.size, 1, none⟩ = some (.slice q5b y0.B.length q5e) := by simp [go_sem]
  have hfc02 : (w25.alloc (.cells #[.slice q5a y0.A.length q5d, .slice q5b y0.B.length q5e, .slice q5c y0.C.length q5f] 29)).cell? ⟨w25.heap.size, 2, none⟩ = some (.slice q5c y0.C.length q5f) := by simp [go_sem]
  go_wp2_with fail
  obtain ⟨W5, hW5⟩ : ∃ W, W = (w25.alloc (.cells #[.slice q5a y0.A.length q5d, .slice q5b y0.B.length q5e, .slice q5c y0.C.length q5f] 29)) := ⟨_, rfl⟩
  have hbW5 : Below w.heap.size w W5 := by rw [hW5]; exact (by repeat (first | exact .refl _ _ | apply bwD | apply bwA | (refine bwS ?_ (by first | omega | simp <;> omega) _) | refine bwC ?_ (by assumption)))
  rw [← hW5] at hx0 hx1 d00 d01 hs0 hsc00 hsc01 hsc02 hm0 g00 g01 g02 hf0 hfc00 hfc01 hfc02 ⊢; clear hW5
  have hstep : True := trivial
  refine (eqt_c hf0.tri hs0 yl0.tsz).mono ?_; rintro e w27 ⟨rfl, hb27⟩
  have hx0 := hx0.below hb27; have hx1 := hx1.below hb27; have d00 := kept hb27 d00; have d01 := kept hb27 d01; have hs0 := hs0.below hb27; have hsc00 := kept hb27 hsc00; have hsc01 := kept hb27 hsc01; have hsc02 := kept hb27 hsc02; have hm0 := hm0.below hb27; have g00 := kept hb27 g00; have g01 := kept hb27 g01; have g02 := kept hb27 g02; have hf0 := hf0.below hb27; have hfc00 := kept hb27 hfc00; have hfc01 := kept hb27 hfc01; have hfc02 := kept hb27 hfc02
  go_wp2_with fail
  refine (heldt_c hm0.tri yl0 (by omega) (by omega)).mono ?_; rintro e w28 ⟨rfl, hb28⟩
  have hx0 := hx0.below hb28; have hx1 := hx1.below hb28; have d00 := kept hb28 d00; have d01 := kept hb28 d01; have hs0 := hs0.below hb28; have hsc00 := kept hb28 hsc00; have hsc01 := kept hb28 hsc01; have hsc02 := kept hb28 hsc02; have hm0 := hm0.below hb28; have g00 := kept hb28 g00; have g01 := kept hb28 g01; have g02 := kept hb28 g02; have hf0 := hf0.below hb28; have hfc00 := kept hb28 hfc00; have hfc01 := kept hb28 hfc01; have hfc02 := kept hb28 hfc02
  go_wp2_with fail
  go_ret
  exact ⟨rfl, (by repeat (first | exact .refl _ _ | apply bwD | apply bwA | (refine bwS ?_ (by first | omega | simp <;> omega) _) | refine bwC ?_ (by assumption)))⟩
end Go.Proofs.Ytfcdhdkhfdhjfaa
