/-
  CoordinatesOf: the law.
-/
import Derived.Test.YtcdebmabheifaaaCCoordinatesOf
import Derived.Test.YtcdebmabheifaaaLawT
namespace Go.Proofs.Ytcdebmabheifaaa
open Go.RowKit

theorem coords_len {p : Int} {st : List Int} {X : Her} (h : RCoordinatesOf2 p st X = 0) : ∀ j < 3, ((multH p X (invL p (X.d 2))).r j).length = sz st.length ∧ sz st.length ≤ 8 := by
  have h0 : ptsH p st [X] = 0 := by
    unfold RCoordinatesOf2 at h
    split at h
    · assumption
    · exact absurd h (by assumption)
  obtain ⟨⟨hd, hall⟩, _⟩ := ptsH_pos h0
  simp at hall
  have hsz := sz_le hd
  obtain ⟨a, b, c, u, v, t, e, _, _, _, _, _, _, eu, ev, et⟩ := isH_op (multH_is (k := invL p (X.d 2)) (by have := hd.hp.lo; omega) hall)
  rw [e]
  intro j hj
  rcases (show j = 0 ∨ j = 1 ∨ j = 2 by omega) with rfl | rfl | rfl
  · exact ⟨eu.1, hsz.2⟩
  · exact ⟨ev.1, hsz.2⟩
  · exact ⟨et.1, hsz.2⟩
theorem RCoordinatesOf0_len (p0 : Int) (st0 : List Int) (X1 : Her) (_ : st0.length ≤ 1048576) (_ : Hsz X1) : (RCoordinatesOf0 p0 st0 X1).length ≤ 1048576 := by
  unfold RCoordinatesOf0
  split
  · rename_i h
    have h2 := coords_len h 1 (by omega)
    rw [show (conjL p0 ((multH p0 X1 (invL p0 (X1.d 2))).r 1)).length = ((multH p0 X1 (invL p0 (X1.d 2))).r 1).length from conjL_len]
    omega
  · simp
theorem RCoordinatesOf1_len (p0 : Int) (st0 : List Int) (X1 : Her) (_ : st0.length ≤ 1048576) (_ : Hsz X1) : (RCoordinatesOf1 p0 st0 X1).length ≤ 1048576 := by
  unfold RCoordinatesOf1
  split
  · rename_i h
    have h2 := coords_len h 0 (by omega)
    omega
  · simp
set_option maxHeartbeats 4000000 in
set_option maxRecDepth 100000 in
theorem law_CoordinatesOf {p0 : Int} {x0 : Value} {st0 : List Int} {x1 : Value} {X1 : Her} {w : World} (hx0 : Sl w x0 st0) (hb0_ : st0.length ≤ 9223372036854775807) (hx1 : Hr w x1 X1) (hb1_ : Hbig X1) :
    Calls Try.prog 11 #[.agg #[.int .i64 p0, x0], x1] w fun e w' => e = .returned (.bool true) ∧ Below w.heap.size w w' := by
  obtain ⟨a0, c0, rfl, _⟩ := id hx0
  obtain ⟨dv1, uv1, rfl, hd1, hu1⟩ := id hx1
  obtain ⟨a1, c1, rfl, _⟩ := id hd1; obtain ⟨b1, e1, rfl, _⟩ := id hu1; clear hd1 hu1
  obtain ⟨z0, hz0_⟩ : ∃ z, z = szI 1048576 st0.length := ⟨_, rfl⟩
  have hzb0 := szI_bd (left := 1048576) (n := st0.length) (by omega) (by omega)
  rw [← hz0_] at hzb0
  have HZ0 := Lib.hid hz0_; clear hz0_
  by_cases hs0 : z0 < 0
  case pos =>
    go_enter Try.func11, Try.ntmps11
    have hb0 : Below w.heap.size w ((w.alloc (.cells #[.int .i64 p0, .slice a0 st0.length c0] 24)).alloc (.cells #[.slice a1 X1.dg.length c1, .slice b1 X1.up.length e1] 27)) := (by repeat (first | exact Below.refl _ _ | apply blw_drew | apply blw_alloc | (refine blw_set ?_ (by first | omega | (simp; done) | (simp; omega)) _) | refine below_chain ?_ (by assumption)))
    have hx0 := hx0.below hb0; have hx1 := hx1.below hb0
    have d00 : ((w.alloc (.cells #[.int .i64 p0, .slice a0 st0.length c0] 24)).alloc (.cells #[.slice a1 X1.dg.length c1, .slice b1 X1.up.length e1] 27)).cell? ⟨w.heap.size, 0, none⟩ = some (.int .i64 p0) := by simp [go_sem]
    have d01 : ((w.alloc (.cells #[.int .i64 p0, .slice a0 st0.length c0] 24)).alloc (.cells #[.slice a1 X1.dg.length c1, .slice b1 X1.up.length e1] 27)).cell? ⟨w.heap.size, 1, none⟩ = some (.slice a0 st0.length c0) := by simp [go_sem]
    have d10 : ((w.alloc (.cells #[.int .i64 p0, .slice a0 st0.length c0] 24)).alloc (.cells #[.slice a1 X1.dg.length c1, .slice b1 X1.up.length e1] 27)).cell? ⟨w.heap.size + 1, 0, none⟩ = some (.slice a1 X1.dg.length c1) := by simp [go_sem]
    have d11 : ((w.alloc (.cells #[.int .i64 p0, .slice a0 st0.length c0] 24)).alloc (.cells #[.slice a1 X1.dg.length c1, .slice b1 X1.up.length e1] 27)).cell? ⟨w.heap.size + 1, 1, none⟩ = some (.slice b1 X1.up.length e1) := by simp [go_sem]
    go_wp2_with fail
    refine (szd_c (by omega) (by omega) hb0_).mono ?_; rintro e w1 ⟨rfl, hb1⟩
    have hx0 := hx0.below hb1; have hx1 := hx1.below hb1; have d00 := kept hb1 d00; have d01 := kept hb1 d01; have d10 := kept hb1 d10; have d11 := kept hb1 d11
    simp only [← HZ0.out]
    go_wp2_with fail
    go_ret
    exact ⟨rfl, (by repeat (first | exact Below.refl _ _ | apply blw_drew | apply blw_alloc | (refine blw_set ?_ (by first | omega | (simp; done) | (simp; omega)) _) | refine below_chain ?_ (by assumption)))⟩
  have hl0 : st0.length ≤ 1048576 := szI_pos (left := 1048576) (by omega) (by rw [← HZ0.out]; exact hs0)
  obtain ⟨z1, hz1_⟩ : ∃ z, z = szH z0 X1 := ⟨_, rfl⟩
  have hzb1 := szH_bd (left := z0) (X := X1) (by omega) (by omega)
  rw [← hz1_] at hzb1
  have HZ1 := Lib.hid hz1_; clear hz1_
  by_cases hs1 : z1 < 0
  case pos =>
    go_enter Try.func11, Try.ntmps11
    have hb0 : Below w.heap.size w ((w.alloc (.cells #[.int .i64 p0, .slice a0 st0.length c0] 24)).alloc (.cells #[.slice a1 X1.dg.length c1, .slice b1 X1.up.length e1] 27)) := (by repeat (first | exact Below.refl _ _ | apply blw_drew | apply blw_alloc | (refine blw_set ?_ (by first | omega | (simp; done) | (simp; omega)) _) | refine below_chain ?_ (by assumption)))
    have hx0 := hx0.below hb0; have hx1 := hx1.below hb0
    have d00 : ((w.alloc (.cells #[.int .i64 p0, .slice a0 st0.length c0] 24)).alloc (.cells #[.slice a1 X1.dg.length c1, .slice b1 X1.up.length e1] 27)).cell? ⟨w.heap.size, 0, none⟩ = some (.int .i64 p0) := by simp [go_sem]
    have d01 : ((w.alloc (.cells #[.int .i64 p0, .slice a0 st0.length c0] 24)).alloc (.cells #[.slice a1 X1.dg.length c1, .slice b1 X1.up.length e1] 27)).cell? ⟨w.heap.size, 1, none⟩ = some (.slice a0 st0.length c0) := by simp [go_sem]
    have d10 : ((w.alloc (.cells #[.int .i64 p0, .slice a0 st0.length c0] 24)).alloc (.cells #[.slice a1 X1.dg.length c1, .slice b1 X1.up.length e1] 27)).cell? ⟨w.heap.size + 1, 0, none⟩ = some (.slice a1 X1.dg.length c1) := by simp [go_sem]
    have d11 : ((w.alloc (.cells #[.int .i64 p0, .slice a0 st0.length c0] 24)).alloc (.cells #[.slice a1 X1.dg.length c1, .slice b1 X1.up.length e1] 27)).cell? ⟨w.heap.size + 1, 1, none⟩ = some (.slice b1 X1.up.length e1) := by simp [go_sem]
    go_wp2_with fail
    refine (szd_c (by omega) (by omega) hb0_).mono ?_; rintro e w1 ⟨rfl, hb1⟩
    have hx0 := hx0.below hb1; have hx1 := hx1.below hb1; have d00 := kept hb1 d00; have d01 := kept hb1 d01; have d10 := kept hb1 d10; have d11 := kept hb1 d11
    simp only [← HZ0.out]
    go_wp2_with fail
    refine (szh_c hx1 hb1_ (by omega) (by omega)).mono ?_; rintro e w2 ⟨rfl, hb2⟩
    have hx0 := hx0.below hb2; have hx1 := hx1.below hb2; have d00 := kept hb2 d00; have d01 := kept hb2 d01; have d10 := kept hb2 d10; have d11 := kept hb2 d11
    simp only [← HZ1.out]
    go_wp2_with fail
    go_ret
    exact ⟨rfl, (by repeat (first | exact Below.refl _ _ | apply blw_drew | apply blw_alloc | (refine blw_set ?_ (by first | omega | (simp; done) | (simp; omega)) _) | refine below_chain ?_ (by assumption)))⟩
  have hl1 : Hsz X1 := szH_pos (left := z0) (by omega) (by omega) (by rw [← HZ1.out]; exact hs1)
  have hS1 : Hs X1 := szH_hs (left := z0) (by omega) (by omega) (by rw [← HZ1.out]; exact hs1)
  have hI := fun (W : World) (x0 : Value) (hx0 : El W x0 st0) (x1 : Value) (hx1 : Hv W x1 X1) => iCoordinatesOf_c (w := W) (p0 := p0) hx0 hl0 hx1 hl1
  have hS := fun (W : World) (x0 : Value) (hx0 : El W x0 st0) (x1 : Value) (hx1 : Hv W x1 X1) => sCoordinatesOf_c (w := W) (p0 := p0) hx0 hl0 hx1 hl1
  have yl0 := RCoordinatesOf0_len p0 st0 X1 hl0 hl1
  obtain ⟨y0, hy0⟩ : ∃ y, y = RCoordinatesOf0 p0 st0 X1 := ⟨_, rfl⟩
  have yl1 := RCoordinatesOf1_len p0 st0 X1 hl0 hl1
  obtain ⟨y1, hy1⟩ : ∃ y, y = RCoordinatesOf1 p0 st0 X1 := ⟨_, rfl⟩
  obtain ⟨y2, hy2⟩ : ∃ y, y = RCoordinatesOf2 p0 st0 X1 := ⟨_, rfl⟩
  simp only [← hy0, ← hy1, ← hy2] at hI hS yl0 yl1
  clear hy0 hy1 hy2
  go_enter Try.func11, Try.ntmps11
  have hb0 : Below w.heap.size w ((w.alloc (.cells #[.int .i64 p0, .slice a0 st0.length c0] 24)).alloc (.cells #[.slice a1 X1.dg.length c1, .slice b1 X1.up.length e1] 27)) := (by repeat (first | exact Below.refl _ _ | apply blw_drew | apply blw_alloc | (refine blw_set ?_ (by first | omega | (simp; done) | (simp; omega)) _) | refine below_chain ?_ (by assumption)))
  have hx0 := hx0.below hb0; have hx1 := hx1.below hb0
  have d00 : ((w.alloc (.cells #[.int .i64 p0, .slice a0 st0.length c0] 24)).alloc (.cells #[.slice a1 X1.dg.length c1, .slice b1 X1.up.length e1] 27)).cell? ⟨w.heap.size, 0, none⟩ = some (.int .i64 p0) := by simp [go_sem]
  have d01 : ((w.alloc (.cells #[.int .i64 p0, .slice a0 st0.length c0] 24)).alloc (.cells #[.slice a1 X1.dg.length c1, .slice b1 X1.up.length e1] 27)).cell? ⟨w.heap.size, 1, none⟩ = some (.slice a0 st0.length c0) := by simp [go_sem]
  have d10 : ((w.alloc (.cells #[.int .i64 p0, .slice a0 st0.length c0] 24)).alloc (.cells #[.slice a1 X1.dg.length c1, .slice b1 X1.up.length e1] 27)).cell? ⟨w.heap.size + 1, 0, none⟩ = some (.slice a1 X1.dg.length c1) := by simp [go_sem]
  have d11 : ((w.alloc (.cells #[.int .i64 p0, .slice a0 st0.length c0] 24)).alloc (.cells #[.slice a1 X1.dg.length c1, .slice b1 X1.up.length e1] 27)).cell? ⟨w.heap.size + 1, 1, none⟩ = some (.slice b1 X1.up.length e1) := by simp [go_sem]
  go_wp2_with fail
  refine (szd_c (by omega) (by omega) hb0_).mono ?_; rintro e w1 ⟨rfl, hb1⟩
  have hx0 := hx0.below hb1; have hx1 := hx1.below hb1; have d00 := kept hb1 d00; have d01 := kept hb1 d01; have d10 := kept hb1 d10; have d11 := kept hb1 d11
  simp only [← HZ0.out]
  go_wp2_with fail
  refine (szh_c hx1 hb1_ (by omega) (by omega)).mono ?_; rintro e w2 ⟨rfl, hb2⟩
  have hx0 := hx0.below hb2; have hx1 := hx1.below hb2; have d00 := kept hb2 d00; have d01 := kept hb2 d01; have d10 := kept hb2 d10; have d11 := kept hb2 d11
  simp only [← HZ1.out]
  go_wp2_with fail
  refine region_flow [(false, [(0, 1), (2, 1), (1, 5)]), (false, [(3, 4), (4, 4), (5, 0), (6, 0), (7, 0), (8, 0), (9, 0), (10, 0), (11, 0)])] (by kernel_rfl) ?_
  have hb3 : Below w2.heap.size w2 w2.drew := (by repeat (first | exact Below.refl _ _ | apply blw_drew | apply blw_alloc | (refine blw_set ?_ (by first | omega | (simp; done) | (simp; omega)) _) | refine below_chain ?_ (by assumption)))
  have hx0 := hx0.below hb3; have hx1 := hx1.below hb3; have d00 := kept hb3 d00; have d01 := kept hb3 d01; have d10 := kept hb3 d10; have d11 := kept hb3 d11
  generalize w2.drew = wq3 at *
  refine norm_K fun K hK => ?_
  change wpList _ _ _ [_, _, _] _ _
  go_wp2_with fail
  refine (tod_c hx0 hl0).mono ?_; rintro e w4 ⟨t0, rfl, ht0, hb4⟩
  have hx0 := hx0.below hb4; have hx1 := hx1.below hb4; have d00 := kept hb4 d00; have d01 := kept hb4 d01; have d10 := kept hb4 d10; have d11 := kept hb4 d11
  go_wp2_with fail
  first | (refine hK _ _ ⟨(by repeat (first | exact Below.refl _ _ | apply blw_drew | apply blw_alloc | (refine blw_set ?_ (by first | omega | (simp; done) | (simp; omega)) _) | refine below_chain ?_ (by assumption))), ?_⟩; clear hK K) | refine ⟨(by repeat (first | exact Below.refl _ _ | apply blw_drew | apply blw_alloc | (refine blw_set ?_ (by first | omega | (simp; done) | (simp; omega)) _) | refine below_chain ?_ (by assumption))), ?_⟩
  refine norm_K fun K hK => ?_
  change wpList _ _ _ [_, _, _, _, _, _, _, _, _] _ _
  go_wp2_with fail
  refine (toh_c hx1 hl1).mono ?_; rintro e w5 ⟨t1, rfl, ht1, hb5⟩
  have hx0 := hx0.below hb5; have hx1 := hx1.below hb5; have d00 := kept hb5 d00; have d01 := kept hb5 d01; have d10 := kept hb5 d10; have d11 := kept hb5 d11; have ht0 := ht0.below hb5
  go_wp2_with fail
  refine (hS _ _ ht0.el _ ht1.hv).mono ?_; rintro e w6 ⟨v0_, v1_, rfl, hs0, hs1, _, hb6⟩
  have hx0 := hx0.below hb6; have hx1 := hx1.below hb6; have d00 := kept hb6 d00; have d01 := kept hb6 d01; have d10 := kept hb6 d10; have d11 := kept hb6 d11; have ht0 := ht0.below hb6; have ht1 := ht1.below hb6
  obtain ⟨sa0, sc0, rfl, _⟩ := id hs0.sl
  obtain ⟨sa1, sc1, rfl, _⟩ := id hs1.sl
  go_wp2_with fail
  first | (refine hK _ _ ⟨rfl, ?_⟩; clear hK K) | refine ⟨rfl, ?_⟩
  have hbW3 : Below w.heap.size w w6 := (by repeat (first | exact Below.refl _ _ | apply blw_drew | apply blw_alloc | (refine blw_set ?_ (by first | omega | (simp; done) | (simp; omega)) _) | refine below_chain ?_ (by assumption)))
  obtain ⟨W3, hW3⟩ : ∃ W, W = w6 := ⟨_, rfl⟩
  rw [← hW3] at hbW3 hx0 hx1 d00 d01 d10 d11 hs0 hs1 ⊢; clear hW3
  have hx0_ := hx0
  have hx1_ := hx1
  have d00_ := d00
  have d01_ := d01
  have d10_ := d10
  have d11_ := d11
  have hs0_ := hs0
  have hs1_ := hs1
  go_wp2_with fail
  refine (tod_c hx0 hl0).mono ?_; rintro e w7 ⟨t0, rfl, ⟨g0, k0, rfl, ht0⟩, hb7⟩
  have hx0 := hx0.below hb7; have hx1 := hx1.below hb7; have d00 := kept hb7 d00; have d01 := kept hb7 d01; have d10 := kept hb7 d10; have d11 := kept hb7 d11; have hs0 := hs0.below hb7; have hs1 := hs1.below hb7
  have bt0 := ht0.lt; have zt0 := hb7.size; (try simp at bt0); (try simp at zt0)
  have hb8 : Below w7.heap.size w7 (w7.alloc (.cells #[.int .i64 p0, .slice (some ⟨g0, 0, none⟩) st0.length k0] 32)) := (by repeat (first | exact Below.refl _ _ | apply blw_drew | apply blw_alloc | (refine blw_set ?_ (by first | omega | (simp; done) | (simp; omega)) _) | refine below_chain ?_ (by assumption)))
  have hx0 := hx0.below hb8; have hx1 := hx1.below hb8; have d00 := kept hb8 d00; have d01 := kept hb8 d01; have d10 := kept hb8 d10; have d11 := kept hb8 d11; have hs0 := hs0.below hb8; have hs1 := hs1.below hb8; have ht0 := ht0.below hb8
  have e00 : (w7.alloc (.cells #[.int .i64 p0, .slice (some ⟨g0, 0, none⟩) st0.length k0] 32)).cell? ⟨w7.heap.size, 0, none⟩ = some (.int .i64 p0) := by simp [go_sem]
  have e01 : (w7.alloc (.cells #[.int .i64 p0, .slice (some ⟨g0, 0, none⟩) st0.length k0] 32)).cell? ⟨w7.heap.size, 1, none⟩ = some (.slice (some ⟨g0, 0, none⟩) st0.length k0) := by simp [go_sem]
  go_wp2_with fail
  refine (toh_c hx1 hl1).mono ?_; rintro e w9 ⟨t1, rfl, ht1, hb9⟩
  have hx0 := hx0.below hb9; have hx1 := hx1.below hb9; have d00 := kept hb9 d00; have d01 := kept hb9 d01; have d10 := kept hb9 d10; have d11 := kept hb9 d11; have hs0 := hs0.below hb9; have hs1 := hs1.below hb9; have ht0 := ht0.below hb9; have e00 := kept hb9 e00; have e01 := kept hb9 e01
  have hk1 := ht1.rg; have zt1 := hb9.size; (try simp at zt1)
  obtain ⟨td1, tu1, rfl, htd1, htu1⟩ := ht1.hv; obtain ⟨ta1, tc1, rfl, _⟩ := htd1.op; obtain ⟨tb1, te1, rfl, _⟩ := id htu1; clear htd1 htu1
  have hb10 : Below w9.heap.size w9 (w9.alloc (.cells #[.slice ta1 X1.dg.length tc1, .slice tb1 X1.up.length te1] 34)) := (by repeat (first | exact Below.refl _ _ | apply blw_drew | apply blw_alloc | (refine blw_set ?_ (by first | omega | (simp; done) | (simp; omega)) _) | refine below_chain ?_ (by assumption)))
  have hx0 := hx0.below hb10; have hx1 := hx1.below hb10; have d00 := kept hb10 d00; have d01 := kept hb10 d01; have d10 := kept hb10 d10; have d11 := kept hb10 d11; have hs0 := hs0.below hb10; have hs1 := hs1.below hb10; have ht0 := ht0.below hb10; have e00 := kept hb10 e00; have e01 := kept hb10 e01; have ht1 := ht1.below hb10; have hk1 := hk1.below hb10
  have e10 : (w9.alloc (.cells #[.slice ta1 X1.dg.length tc1, .slice tb1 X1.up.length te1] 34)).cell? ⟨w9.heap.size, 0, none⟩ = some (.slice ta1 X1.dg.length tc1) := by simp [go_sem]
  have e11 : (w9.alloc (.cells #[.slice ta1 X1.dg.length tc1, .slice tb1 X1.up.length te1] 34)).cell? ⟨w9.heap.size, 1, none⟩ = some (.slice tb1 X1.up.length te1) := by simp [go_sem]
  go_wp2_with fail
  refine (hI _ _ ht0.el _ ht1.hv).mono ?_; rintro e w11 ⟨v0_, v1_, rfl, hg0, hg1, hap_, hb11⟩
  have hx0 := hx0.below hb11; have hx1 := hx1.below hb11; have d00 := kept hb11 d00; have d01 := kept hb11 d01; have d10 := kept hb11 d10; have d11 := kept hb11 d11; have hs0 := hs0.below hb11; have hs1 := hs1.below hb11; have ht0 := ht0.below hb11; have e00 := kept hb11 e00; have e01 := kept hb11 e01; have ht1 := ht1.below hb11; have hk1 := hk1.below hb11; have e10 := kept hb11 e10; have e11 := kept hb11 e11
  have apart10 := Lib.hid hap_; have apart01 := Lib.hid hap_.sw; clear hap_
  have z6 := hb11.size; (try simp at z6)
  have hq0 := hg0; clear hg0; have bq0 := hq0.blk; (try simp at bq0)
  obtain ⟨ga0, gc0, rfl, _⟩ := id hq0.sl
  have hq1 := hg1; clear hg1; have bq1 := hq1.blk; (try simp at bq1)
  obtain ⟨ga1, gc1, rfl, _⟩ := id hq1.sl
  go_wp2_with fail
  refine (eqs_c hq0.sl hs0.sl yl0).mono ?_; rintro e w12 ⟨rfl, hb12⟩
  have hx0 := hx0.below hb12; have hx1 := hx1.below hb12; have d00 := kept hb12 d00; have d01 := kept hb12 d01; have d10 := kept hb12 d10; have d11 := kept hb12 d11; have hs0 := hs0.below hb12; have hs1 := hs1.below hb12; have ht0 := ht0.below hb12; have e00 := kept hb12 e00; have e01 := kept hb12 e01; have ht1 := ht1.below hb12; have hk1 := hk1.below hb12; have e10 := kept hb12 e10; have e11 := kept hb12 e11; have hq0 := hq0.below hb12; have hq1 := hq1.below hb12
  go_wp2_with fail
  refine (eqs_c hq1.sl hs1.sl yl1).mono ?_; rintro e w13 ⟨rfl, hb13⟩
  have hx0 := hx0.below hb13; have hx1 := hx1.below hb13; have d00 := kept hb13 d00; have d01 := kept hb13 d01; have d10 := kept hb13 d10; have d11 := kept hb13 d11; have hs0 := hs0.below hb13; have hs1 := hs1.below hb13; have ht0 := ht0.below hb13; have e00 := kept hb13 e00; have e01 := kept hb13 e01; have ht1 := ht1.below hb13; have hk1 := hk1.below hb13; have e10 := kept hb13 e10; have e11 := kept hb13 e11; have hq0 := hq0.below hb13; have hq1 := hq1.below hb13
  go_wp2_with fail
  refine region_flow [(false, [(0, 1), (1, 1), (2, 5)]), (false, [(3, 4), (4, 0)])] (by kernel_rfl) ?_
  have hb14 : Below w13.heap.size w13 w13.drew := (by repeat (first | exact Below.refl _ _ | apply blw_drew | apply blw_alloc | (refine blw_set ?_ (by first | omega | (simp; done) | (simp; omega)) _) | refine below_chain ?_ (by assumption)))
  have hx0 := hx0.below hb14; have hx1 := hx1.below hb14; have d00 := kept hb14 d00; have d01 := kept hb14 d01; have d10 := kept hb14 d10; have d11 := kept hb14 d11; have hs0 := hs0.below hb14; have hs1 := hs1.below hb14; have ht0 := ht0.below hb14; have e00 := kept hb14 e00; have e01 := kept hb14 e01; have ht1 := ht1.below hb14; have hk1 := hk1.below hb14; have e10 := kept hb14 e10; have e11 := kept hb14 e11; have hq0 := hq0.below hb14; have hq1 := hq1.below hb14
  generalize w13.drew = wr0 at *
  refine norm_K fun K hK => ?_
  change wpList _ _ _ [_, _, _] _ _
  go_wp2_with fail
  refine (tod_c hx0 hl0).mono ?_; rintro e w15 ⟨u0, rfl, hu0, hb15⟩
  have hx0 := hx0.below hb15; have hx1 := hx1.below hb15; have d00 := kept hb15 d00; have d01 := kept hb15 d01; have d10 := kept hb15 d10; have d11 := kept hb15 d11; have hs0 := hs0.below hb15; have hs1 := hs1.below hb15; have ht0 := ht0.below hb15; have e00 := kept hb15 e00; have e01 := kept hb15 e01; have ht1 := ht1.below hb15; have hk1 := hk1.below hb15; have e10 := kept hb15 e10; have e11 := kept hb15 e11; have hq0 := hq0.below hb15; have hq1 := hq1.below hb15
  go_wp2_with fail
  first | (refine hK _ _ ⟨hb15, ?_⟩; clear hK K) | refine ⟨hb15, ?_⟩
  refine norm_K fun K hK => ?_
  change wpList _ _ _ [_, _] _ _
  go_wp2_with fail
  refine (eqd_c ht0.sl hu0.sl hl0).mono ?_; rintro e w16 ⟨rfl, hb16⟩
  have hx0 := hx0.below hb16; have hx1 := hx1.below hb16; have d00 := kept hb16 d00; have d01 := kept hb16 d01; have d10 := kept hb16 d10; have d11 := kept hb16 d11; have hs0 := hs0.below hb16; have hs1 := hs1.below hb16; have ht0 := ht0.below hb16; have e00 := kept hb16 e00; have e01 := kept hb16 e01; have ht1 := ht1.below hb16; have hk1 := hk1.below hb16; have e10 := kept hb16 e10; have e11 := kept hb16 e11; have hq0 := hq0.below hb16; have hq1 := hq1.below hb16
  go_wp2_with fail
  first | (refine hK _ _ ⟨rfl, ?_⟩; clear hK K) | refine ⟨rfl, ?_⟩
  go_wp2_with fail
  refine region_flow [(false, [(0, 1), (1, 1), (2, 5)]), (false, [(3, 4), (4, 0)])] (by kernel_rfl) ?_
  have hb17 : Below w16.heap.size w16 w16.drew := (by repeat (first | exact Below.refl _ _ | apply blw_drew | apply blw_alloc | (refine blw_set ?_ (by first | omega | (simp; done) | (simp; omega)) _) | refine below_chain ?_ (by assumption)))
  have hx0 := hx0.below hb17; have hx1 := hx1.below hb17; have d00 := kept hb17 d00; have d01 := kept hb17 d01; have d10 := kept hb17 d10; have d11 := kept hb17 d11; have hs0 := hs0.below hb17; have hs1 := hs1.below hb17; have ht0 := ht0.below hb17; have e00 := kept hb17 e00; have e01 := kept hb17 e01; have ht1 := ht1.below hb17; have hk1 := hk1.below hb17; have e10 := kept hb17 e10; have e11 := kept hb17 e11; have hq0 := hq0.below hb17; have hq1 := hq1.below hb17
  generalize w16.drew = wr1 at *
  refine norm_K fun K hK => ?_
  change wpList _ _ _ [_, _, _] _ _
  go_wp2_with fail
  refine (toh_c hx1 hl1).mono ?_; rintro e w18 ⟨u1, rfl, hu1, hb18⟩
  have hx0 := hx0.below hb18; have hx1 := hx1.below hb18; have d00 := kept hb18 d00; have d01 := kept hb18 d01; have d10 := kept hb18 d10; have d11 := kept hb18 d11; have hs0 := hs0.below hb18; have hs1 := hs1.below hb18; have ht0 := ht0.below hb18; have e00 := kept hb18 e00; have e01 := kept hb18 e01; have ht1 := ht1.below hb18; have hk1 := hk1.below hb18; have e10 := kept hb18 e10; have e11 := kept hb18 e11; have hq0 := hq0.below hb18; have hq1 := hq1.below hb18
  go_wp2_with fail
  first | (refine hK _ _ ⟨hb18, ?_⟩; clear hK K) | refine ⟨hb18, ?_⟩
  refine norm_K fun K hK => ?_
  change wpList _ _ _ [_, _] _ _
  go_wp2_with fail
  refine (eqh_c ht1.hv.hr hu1.hv.hr hl1).mono ?_; rintro e w19 ⟨rfl, hb19⟩
  have hx0 := hx0.below hb19; have hx1 := hx1.below hb19; have d00 := kept hb19 d00; have d01 := kept hb19 d01; have d10 := kept hb19 d10; have d11 := kept hb19 d11; have hs0 := hs0.below hb19; have hs1 := hs1.below hb19; have ht0 := ht0.below hb19; have e00 := kept hb19 e00; have e01 := kept hb19 e01; have ht1 := ht1.below hb19; have hk1 := hk1.below hb19; have e10 := kept hb19 e10; have e11 := kept hb19 e11; have hq0 := hq0.below hb19; have hq1 := hq1.below hb19
  go_wp2_with fail
  first | (refine hK _ _ ⟨rfl, ?_⟩; clear hK K) | refine ⟨rfl, ?_⟩
  go_wp2_with fail
  refine (markd_c (ht0.fr.ow (Nat.le_refl _)) hl0 (by omega) (by omega)).mono ?_; rintro e w20 ⟨rfl, _, hch_⟩
  have hch0 := hch_ g0 (g0 + 1) (fun j hj => by have e : g0 = j := Option.some.inj hj; omega); clear hch_
  have hb20 := hch0.blw (show Below W3.heap.size W3 w19 from (by repeat (first | exact Below.refl _ _ | apply blw_drew | apply blw_alloc | (refine blw_set ?_ (by first | omega | (simp; done) | (simp; omega)) _) | refine below_chain ?_ (by assumption)))) (by first | omega | (simp; done) | (simp; omega))
  have hx0 := hx0_.below hb20
  have hx1 := hx1_.below hb20
  have d00 := kept hb20 d00_
  have d01 := kept hb20 d01_
  have d10 := kept hb20 d10_
  have d11 := kept hb20 d11_
  have hs0 := hs0_.below hb20
  have hs1 := hs1_.below hb20
  have hk1 := hk1.chg hch0 (by first | omega | (simp; done) | (simp; omega))
  have e10 := hch0.cell e10 (.inr (by first | omega | (simp; done) | (simp; omega)))
  have e11 := hch0.cell e11 (.inr (by first | omega | (simp; done) | (simp; omega)))
  have hq0 := OwI.chg hch0 hq0 (fun g hg => .inr (by have := bq0 g hg; first | omega | (simp; omega)))
  have hq1 := OwI.chg hch0 hq1 (fun g hg => .inr (by have := bq1 g hg; first | omega | (simp; omega)))
  have zw20 : W3.heap.size ≤ w20.heap.size := hb20.size
  go_wp2_with fail
  have hS11 := hl1.h1; have hS12 := hS1.sum
  refine (markh_c hk1 hS1 (by omega) (by omega)).mono ?_; rintro e w21 ⟨rfl, _, hch1⟩
  have hb21 := hch1.blw (show Below W3.heap.size W3 w20 from (by repeat (first | exact Below.refl _ _ | apply blw_drew | apply blw_alloc | (refine blw_set ?_ (by first | omega | (simp; done) | (simp; omega)) _) | refine below_chain ?_ (by assumption)))) (by first | omega | (simp; done) | (simp; omega))
  have hx0 := hx0_.below hb21
  have hx1 := hx1_.below hb21
  have d00 := kept hb21 d00_
  have d01 := kept hb21 d01_
  have d10 := kept hb21 d10_
  have d11 := kept hb21 d11_
  have hs0 := hs0_.below hb21
  have hs1 := hs1_.below hb21
  have hq0 := OwI.chg hch1 hq0 (fun g hg => .inr (by have := bq0 g hg; first | omega | (simp; omega)))
  have hq1 := OwI.chg hch1 hq1 (fun g hg => .inr (by have := bq1 g hg; first | omega | (simp; omega)))
  have zw21 : W3.heap.size ≤ w21.heap.size := hb21.size
  have hmk : True := trivial
  go_wp2_with fail
  refine (eqs_c hq0.sl hs0.sl yl0).mono ?_; rintro e w22 ⟨rfl, hb22⟩
  have hx0 := hx0.below hb22; have hx1 := hx1.below hb22; have d00 := kept hb22 d00; have d01 := kept hb22 d01; have d10 := kept hb22 d10; have d11 := kept hb22 d11; have hs0 := hs0.below hb22; have hs1 := hs1.below hb22; have hq0 := hq0.below hb22; have hq1 := hq1.below hb22
  go_wp2_with fail
  refine (eqs_c hq1.sl hs1.sl yl1).mono ?_; rintro e w23 ⟨rfl, hb23⟩
  have hx0 := hx0.below hb23; have hx1 := hx1.below hb23; have d00 := kept hb23 d00; have d01 := kept hb23 d01; have d10 := kept hb23 d10; have d11 := kept hb23 d11; have hs0 := hs0.below hb23; have hs1 := hs1.below hb23; have hq0 := hq0.below hb23; have hq1 := hq1.below hb23
  go_wp2_with fail
  refine (mark_c hq0 yl0 (by omega) (by omega)).mono ?_; rintro e w24 ⟨rfl, hm0, hgr0⟩
  have hcg0 : Chg W3.heap.size w23.heap.size w23 w24 := Chg.grown hgr0 (fun k hk => by have := bq0 k hk; have := hq0.blk k hk; first | omega | (simp at *; omega))
  have hb24 := hcg0.blw (show Below W3.heap.size W3 w23 from (by repeat (first | exact Below.refl _ _ | apply blw_drew | apply blw_alloc | (refine blw_set ?_ (by first | omega | (simp; done) | (simp; omega)) _) | refine below_chain ?_ (by assumption)))) (Nat.le_refl _)
  have hx0 := hx0_.below hb24
  have hx1 := hx1_.below hb24
  have d00 := kept hb24 d00_
  have d01 := kept hb24 d01_
  have d10 := kept hb24 d10_
  have d11 := kept hb24 d11_
  have hs0 := hs0_.below hb24
  have hs1 := hs1_.below hb24
  have hq1 := hq1.grown_ hgr0 apart01.out
  go_wp2_with fail
  refine (mark_c hq1 yl1 (by omega) (by omega)).mono ?_; rintro e w25 ⟨rfl, hm1, hgr1⟩
  have hcg1 : Chg W3.heap.size w24.heap.size w24 w25 := Chg.grown hgr1 (fun k hk => by have := bq1 k hk; have := hq1.blk k hk; first | omega | (simp at *; omega))
  have hb25 := hcg1.blw (show Below W3.heap.size W3 w24 from (by repeat (first | exact Below.refl _ _ | apply blw_drew | apply blw_alloc | (refine blw_set ?_ (by first | omega | (simp; done) | (simp; omega)) _) | refine below_chain ?_ (by assumption)))) (Nat.le_refl _)
  have hx0 := hx0_.below hb25
  have hx1 := hx1_.below hb25
  have d00 := kept hb25 d00_
  have d01 := kept hb25 d01_
  have d10 := kept hb25 d10_
  have d11 := kept hb25 d11_
  have hs0 := hs0_.below hb25
  have hs1 := hs1_.below hb25
  have hm0 := hm0.grown_ hgr1 apart10.out
  go_wp2_with fail
  refine (held_c (n := y0.length) hm0.sl yl0 (by omega) (by omega)).mono ?_; rintro e w26 ⟨rfl, rfl⟩
  go_wp2_with fail
  refine (held_c (n := y1.length) hm1.sl yl1 (by omega) (by omega)).mono ?_; rintro e w27 ⟨rfl, rfl⟩
  go_wp2_with fail
  refine region_flow [(false, [(0, 1), (2, 1), (1, 5)]), (false, [(3, 4), (4, 4), (5, 0), (6, 0), (7, 0), (8, 0), (9, 0), (10, 0), (11, 0)])] (by kernel_rfl) ?_
  have hb28 : Below w25.heap.size w25 w25.drew := (by repeat (first | exact Below.refl _ _ | apply blw_drew | apply blw_alloc | (refine blw_set ?_ (by first | omega | (simp; done) | (simp; omega)) _) | refine below_chain ?_ (by assumption)))
  have hx0 := hx0.below hb28; have hx1 := hx1.below hb28; have d00 := kept hb28 d00; have d01 := kept hb28 d01; have d10 := kept hb28 d10; have d11 := kept hb28 d11; have hs0 := hs0.below hb28; have hs1 := hs1.below hb28; have hm0 := hm0.below hb28; have hm1 := hm1.below hb28
  generalize w25.drew = wq5 at *
  refine norm_K fun K hK => ?_
  change wpList _ _ _ [_, _, _] _ _
  go_wp2_with fail
  refine (tod_c hx0 hl0).mono ?_; rintro e w29 ⟨t0, rfl, ht0, hb29⟩
  have hx0 := hx0.below hb29; have hx1 := hx1.below hb29; have d00 := kept hb29 d00; have d01 := kept hb29 d01; have d10 := kept hb29 d10; have d11 := kept hb29 d11; have hs0 := hs0.below hb29; have hs1 := hs1.below hb29; have hm0 := hm0.below hb29; have hm1 := hm1.below hb29
  go_wp2_with fail
  first | (refine hK _ _ ⟨(by repeat (first | exact Below.refl _ _ | apply blw_drew | apply blw_alloc | (refine blw_set ?_ (by first | omega | (simp; done) | (simp; omega)) _) | refine below_chain ?_ (by assumption))), ?_⟩; clear hK K) | refine ⟨(by repeat (first | exact Below.refl _ _ | apply blw_drew | apply blw_alloc | (refine blw_set ?_ (by first | omega | (simp; done) | (simp; omega)) _) | refine below_chain ?_ (by assumption))), ?_⟩
  refine norm_K fun K hK => ?_
  change wpList _ _ _ [_, _, _, _, _, _, _, _, _] _ _
  go_wp2_with fail
  refine (toh_c hx1 hl1).mono ?_; rintro e w30 ⟨t1, rfl, ht1, hb30⟩
  have hx0 := hx0.below hb30; have hx1 := hx1.below hb30; have d00 := kept hb30 d00; have d01 := kept hb30 d01; have d10 := kept hb30 d10; have d11 := kept hb30 d11; have hs0 := hs0.below hb30; have hs1 := hs1.below hb30; have hm0 := hm0.below hb30; have hm1 := hm1.below hb30; have ht0 := ht0.below hb30
  go_wp2_with fail
  refine (hI _ _ ht0.el _ ht1.hv).mono ?_; rintro e w31 ⟨v0_, v1_, rfl, hf0, hf1, _, hb31⟩
  have hx0 := hx0.below hb31; have hx1 := hx1.below hb31; have d00 := kept hb31 d00; have d01 := kept hb31 d01; have d10 := kept hb31 d10; have d11 := kept hb31 d11; have hs0 := hs0.below hb31; have hs1 := hs1.below hb31; have hm0 := hm0.below hb31; have hm1 := hm1.below hb31; have ht0 := ht0.below hb31; have ht1 := ht1.below hb31
  obtain ⟨sa0, sc0, rfl, _⟩ := id hf0.sl
  obtain ⟨sa1, sc1, rfl, _⟩ := id hf1.sl
  go_wp2_with fail
  first | (refine hK _ _ ⟨rfl, ?_⟩; clear hK K) | refine ⟨rfl, ?_⟩
  go_wp2_with fail
  refine (eqs_c hf0.sl hs0.sl yl0).mono ?_; rintro e w32 ⟨rfl, hb32⟩
  have hx0 := hx0.below hb32; have hx1 := hx1.below hb32; have d00 := kept hb32 d00; have d01 := kept hb32 d01; have d10 := kept hb32 d10; have d11 := kept hb32 d11; have hs0 := hs0.below hb32; have hs1 := hs1.below hb32; have hm0 := hm0.below hb32; have hm1 := hm1.below hb32; have hf0 := hf0.below hb32; have hf1 := hf1.below hb32
  go_wp2_with fail
  refine (eqs_c hf1.sl hs1.sl yl1).mono ?_; rintro e w33 ⟨rfl, hb33⟩
  have hx0 := hx0.below hb33; have hx1 := hx1.below hb33; have d00 := kept hb33 d00; have d01 := kept hb33 d01; have d10 := kept hb33 d10; have d11 := kept hb33 d11; have hs0 := hs0.below hb33; have hs1 := hs1.below hb33; have hm0 := hm0.below hb33; have hm1 := hm1.below hb33; have hf0 := hf0.below hb33; have hf1 := hf1.below hb33
  go_wp2_with fail
  refine (held_c (n := y0.length) hm0.sl yl0 (by omega) (by omega)).mono ?_; rintro e w34 ⟨rfl, rfl⟩
  go_wp2_with fail
  refine (held_c (n := y1.length) hm1.sl yl1 (by omega) (by omega)).mono ?_; rintro e w35 ⟨rfl, rfl⟩
  go_wp2_with fail
  go_ret
  exact ⟨rfl, (by repeat (first | exact Below.refl _ _ | apply blw_drew | apply blw_alloc | (refine blw_set ?_ (by first | omega | (simp; done) | (simp; omega)) _) | refine below_chain ?_ (by assumption)))⟩
end Go.Proofs.Ytcdebmabheifaaa
