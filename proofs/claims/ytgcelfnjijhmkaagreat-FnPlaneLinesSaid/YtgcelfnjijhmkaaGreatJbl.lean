/- Texts joined for a claim: HcX, HcY. -/
import Derived.Test.YtgcelfnjijhmkaaGreatHcW
/-
  The reference's equality of matrices and idempotents; multiples.
-/
namespace Go.Proofs.YtgcelfnjijhmkaaGreat
open Go.RowKit

end Go.Proofs.YtgcelfnjijhmkaaGreat
/-
  The cross of matrices and multiples: program and reference.
-/
namespace Go.Proofs.YtgcelfnjijhmkaaGreat
open Go.RowKit

def crossH (p : Int) (st : List Int) (X Y : Her) : Her := sumH p (sumH p (adjH p st (sumH p X 1 Y)) (-1) (adjH p st X)) (-1) (adjH p st Y)
theorem crossH_is {p : Int} {st : List Int} {X Y : Her} (hp : 2 ≤ p) (hX : isH p (sz st.length) X = true) (hY : isH p (sz st.length) Y = true) : isH p (sz st.length) (crossH p st X Y) = true :=
  sumH_is (by omega) (sumH_is (by omega) (adjH_is hp (sumH_is (by omega) hX hY)) (adjH_is hp hX)) (adjH_is hp hY)
theorem sumH_neg {p : Int} {X Y : Her} : sumH p X (p - 1) Y = sumH p X (-1) Y := by
  have h : ∀ xs ys : List Int, plusL p xs ys (p - 1) = plusL p xs ys (-1) := fun xs ys => plusL_cong (by
    rw [show p - 1 = -1 + p * 1 by omega, Int.add_mul_emod_self_left])
  unfold sumH
  simp only [h]
theorem multH_sum {p n : Int} {m : Nat} {X : Her} (hX : isH p m X = true) : sumH p (sumH p X (-1) X) n X = multH p X n := by
  obtain ⟨a, b, c, u, v, t, rfl, _⟩ := isH_op hX
  have h0 : ∀ x : Int, ((x + -1 * x) % p + n * x) % p = x * n % p := fun x => by
    rw [show x + -1 * x = 0 by omega, Int.zero_emod, Int.zero_add, Int.mul_comm]
  have h : ∀ xs : List Int, plusL p (plusL p xs xs (-1)) xs n = scaleL p xs n := fun xs => by
    unfold plusL scaleL
    induction xs with
    | nil => rfl
    | cons x xs ih => simp only [List.zipWith_cons_cons, List.map_cons, ih, h0]
  unfold sumH multH Her.r
  simp only [h, List.getD_cons_zero, List.getD_cons_succ]
set_option maxRecDepth 100000 in
theorem cross_c {p : Int} {s x y : Value} {st : List Int} {X Y : Her} {w : World} (hd : Dok p st) (hs : El w s st) (hx : Hv w x X) (hX : isH p (sz st.length) X = true) (hy : Hv w y Y) (hY : isH p (sz st.length) Y = true) :
    Calls Tryz.prog 61 #[.agg #[.int .i64 p, s], x, y] w fun e w' => ∃ v, e = .returned v ∧ FrH w' w.heap.size v (crossH p st X Y) ∧ Below w.heap.size w w' := by
  have hp1 := hd.hp.lo
  have hC := crossH_is (p := p) (by omega) hX hY
  have i1 := sumH_is (p := p) (k := 1) (by omega) hX hY
  have i2 := adjH_is (p := p) (by omega) i1
  have i3 := adjH_is (p := p) (by omega) hX
  have i4 := sumH_is (p := p) (k := -1) (by omega) i2 i3
  have i5 := adjH_is (p := p) (by omega) hY
  have hS4 := (isH_parts hC).2.2.1
  have HS4 := Lib.hid hS4; clear hS4
  obtain ⟨C, hC_⟩ : ∃ C, C = crossH p st X Y := ⟨_, rfl⟩
  rw [← hC_] at HS4 ⊢
  have HC := Lib.hid hC_; clear hC_ hC
  obtain ⟨a0, c0, rfl, _⟩ := id hs.op
  obtain ⟨dv1, uv1, rfl, hd1_, hu1_⟩ := id hx; obtain ⟨a1, c1, rfl, _⟩ := id hd1_.op; obtain ⟨b1, k1, rfl, _⟩ := id hu1_; clear hd1_ hu1_
  obtain ⟨dv2, uv2, rfl, hd2_, hu2_⟩ := id hy; obtain ⟨a2, c2, rfl, _⟩ := id hd2_.op; obtain ⟨b2, k2, rfl, _⟩ := id hu2_; clear hd2_ hu2_
  go_enter Tryz.func61, Tryz.ntmps61
  have hb0 : Below w.heap.size w ((((w.alloc (.cells #[.int .i64 p, .slice a0 st.length c0] 26)).alloc (.cells #[.slice a1 X.dg.length c1, .slice b1 X.up.length k1] 31)).alloc (.cells #[.slice a2 Y.dg.length c2, .slice b2 Y.up.length k2] 31)).alloc (.cells #[.slice none 0 0, .slice none 0 0] 31)) := (by repeat (first | exact Below.refl _ _ | apply blw_drew | apply blw_alloc | (refine blw_set ?_ (by first | omega | simp <;> omega) _) | refine below_chain ?_ (by assumption)))
  have hs := hs.below hb0; have hx := hx.below hb0; have hy := hy.below hb0
  have d0 : ((((w.alloc (.cells #[.int .i64 p, .slice a0 st.length c0] 26)).alloc (.cells #[.slice a1 X.dg.length c1, .slice b1 X.up.length k1] 31)).alloc (.cells #[.slice a2 Y.dg.length c2, .slice b2 Y.up.length k2] 31)).alloc (.cells #[.slice none 0 0, .slice none 0 0] 31)).cell? ⟨w.heap.size, 0, none⟩ = some (.int .i64 p) := by simp [go_sem]
  have d1 : ((((w.alloc (.cells #[.int .i64 p, .slice a0 st.length c0] 26)).alloc (.cells #[.slice a1 X.dg.length c1, .slice b1 X.up.length k1] 31)).alloc (.cells #[.slice a2 Y.dg.length c2, .slice b2 Y.up.length k2] 31)).alloc (.cells #[.slice none 0 0, .slice none 0 0] 31)).cell? ⟨w.heap.size, 1, none⟩ = some (.slice a0 st.length c0) := by simp [go_sem]
  have e0 : ((((w.alloc (.cells #[.int .i64 p, .slice a0 st.length c0] 26)).alloc (.cells #[.slice a1 X.dg.length c1, .slice b1 X.up.length k1] 31)).alloc (.cells #[.slice a2 Y.dg.length c2, .slice b2 Y.up.length k2] 31)).alloc (.cells #[.slice none 0 0, .slice none 0 0] 31)).cell? ⟨w.heap.size + 1, 0, none⟩ = some (.slice a1 X.dg.length c1) := by simp [go_sem]
  have e1 : ((((w.alloc (.cells #[.int .i64 p, .slice a0 st.length c0] 26)).alloc (.cells #[.slice a1 X.dg.length c1, .slice b1 X.up.length k1] 31)).alloc (.cells #[.slice a2 Y.dg.length c2, .slice b2 Y.up.length k2] 31)).alloc (.cells #[.slice none 0 0, .slice none 0 0] 31)).cell? ⟨w.heap.size + 1, 1, none⟩ = some (.slice b1 X.up.length k1) := by simp [go_sem]
  have f0 : ((((w.alloc (.cells #[.int .i64 p, .slice a0 st.length c0] 26)).alloc (.cells #[.slice a1 X.dg.length c1, .slice b1 X.up.length k1] 31)).alloc (.cells #[.slice a2 Y.dg.length c2, .slice b2 Y.up.length k2] 31)).alloc (.cells #[.slice none 0 0, .slice none 0 0] 31)).cell? ⟨w.heap.size + 1 + 1, 0, none⟩ = some (.slice a2 Y.dg.length c2) := by simp [go_sem]
  have f1 : ((((w.alloc (.cells #[.int .i64 p, .slice a0 st.length c0] 26)).alloc (.cells #[.slice a1 X.dg.length c1, .slice b1 X.up.length k1] 31)).alloc (.cells #[.slice a2 Y.dg.length c2, .slice b2 Y.up.length k2] 31)).alloc (.cells #[.slice none 0 0, .slice none 0 0] 31)).cell? ⟨w.heap.size + 1 + 1, 1, none⟩ = some (.slice b2 Y.up.length k2) := by simp [go_sem]
  have r0 : ((((w.alloc (.cells #[.int .i64 p, .slice a0 st.length c0] 26)).alloc (.cells #[.slice a1 X.dg.length c1, .slice b1 X.up.length k1] 31)).alloc (.cells #[.slice a2 Y.dg.length c2, .slice b2 Y.up.length k2] 31)).alloc (.cells #[.slice none 0 0, .slice none 0 0] 31)).cell? ⟨w.heap.size + 1 + 1 + 1, 0, none⟩ = some (.slice none 0 0) := by simp [go_sem]
  have r1 : ((((w.alloc (.cells #[.int .i64 p, .slice a0 st.length c0] 26)).alloc (.cells #[.slice a1 X.dg.length c1, .slice b1 X.up.length k1] 31)).alloc (.cells #[.slice a2 Y.dg.length c2, .slice b2 Y.up.length k2] 31)).alloc (.cells #[.slice none 0 0, .slice none 0 0] 31)).cell? ⟨w.heap.size + 1 + 1 + 1, 1, none⟩ = some (.slice none 0 0) := by simp [go_sem]
  have hr : Bx ((((w.alloc (.cells #[.int .i64 p, .slice a0 st.length c0] 26)).alloc (.cells #[.slice a1 X.dg.length c1, .slice b1 X.up.length k1] 31)).alloc (.cells #[.slice a2 Y.dg.length c2, .slice b2 Y.up.length k2] 31)).alloc (.cells #[.slice none 0 0, .slice none 0 0] 31)) (w.heap.size + 1 + 1 + 1) (.slice none 0 0) (.slice none 0 0) := by rw [show w.heap.size + 1 + 1 + 1 = (((w.alloc (.cells #[.int .i64 p, .slice a0 st.length c0] 26)).alloc (.cells #[.slice a1 X.dg.length c1, .slice b1 X.up.length k1] 31)).alloc (.cells #[.slice a2 Y.dg.length c2, .slice b2 Y.up.length k2] 31)).heap.size by simp]; exact heap_alloc_new _ _
  go_wp2_with fail
  refine region_flow [(false, [(0, 1), (1, 1), (2, 1), (3, 1), (4, 1), (5, 1), (8, 1), (9, 1), (12, 1), (13, 1), (6, 5)]), (false, [(7, 5)]), (false, [(10, 5)]), (false, [(11, 5)]), (false, [(14, 5)]), (false, [(15, 4), (16, 4)])] (by kernel_rfl) ?_
  refine norm_K fun K hK => ?_
  change wpList _ _ _ [_, _, _, _, _, _, _, _, _, _, _] _ _
  have hb1 : Below ((((w.alloc (.cells #[.int .i64 p, .slice a0 st.length c0] 26)).alloc (.cells #[.slice a1 X.dg.length c1, .slice b1 X.up.length k1] 31)).alloc (.cells #[.slice a2 Y.dg.length c2, .slice b2 Y.up.length k2] 31)).alloc (.cells #[.slice none 0 0, .slice none 0 0] 31)).heap.size ((((w.alloc (.cells #[.int .i64 p, .slice a0 st.length c0] 26)).alloc (.cells #[.slice a1 X.dg.length c1, .slice b1 X.up.length k1] 31)).alloc (.cells #[.slice a2 Y.dg.length c2, .slice b2 Y.up.length k2] 31)).alloc (.cells #[.slice none 0 0, .slice none 0 0] 31)) ((((w.alloc (.cells #[.int .i64 p, .slice a0 st.length c0] 26)).alloc (.cells #[.slice a1 X.dg.length c1, .slice b1 X.up.length k1] 31)).alloc (.cells #[.slice a2 Y.dg.length c2, .slice b2 Y.up.length k2] 31)).alloc (.cells #[.slice none 0 0, .slice none 0 0] 31)).drew := (by repeat (first | exact Below.refl _ _ | apply blw_drew | apply blw_alloc | (refine blw_set ?_ (by first | omega | simp <;> omega) _) | refine below_chain ?_ (by assumption)))
  have hs := hs.below hb1; have hx := hx.below hb1; have hy := hy.below hb1; have d0 := kept hb1 d0; have d1 := kept hb1 d1; have e0 := kept hb1 e0; have e1 := kept hb1 e1; have f0 := kept hb1 f0; have f1 := kept hb1 f1; have hr := hr.below hb1
  generalize ((((w.alloc (.cells #[.int .i64 p, .slice a0 st.length c0] 26)).alloc (.cells #[.slice a1 X.dg.length c1, .slice b1 X.up.length k1] 31)).alloc (.cells #[.slice a2 Y.dg.length c2, .slice b2 Y.up.length k2] 31)).alloc (.cells #[.slice none 0 0, .slice none 0 0] 31)).drew = wq at *
  have hzq := below_le (show Below (((((w.alloc (.cells #[.int .i64 p, .slice a0 st.length c0] 26)).alloc (.cells #[.slice a1 X.dg.length c1, .slice b1 X.up.length k1] 31)).alloc (.cells #[.slice a2 Y.dg.length c2, .slice b2 Y.up.length k2] 31)).alloc (.cells #[.slice none 0 0, .slice none 0 0] 31))).heap.size (((((w.alloc (.cells #[.int .i64 p, .slice a0 st.length c0] 26)).alloc (.cells #[.slice a1 X.dg.length c1, .slice b1 X.up.length k1] 31)).alloc (.cells #[.slice a2 Y.dg.length c2, .slice b2 Y.up.length k2] 31)).alloc (.cells #[.slice none 0 0, .slice none 0 0] 31))) wq from (by repeat (first | exact Below.refl _ _ | apply blw_drew | apply blw_alloc | (refine blw_set ?_ (by first | omega | simp <;> omega) _) | refine below_chain ?_ (by assumption))))
  simp at hzq
  go_wp2_with fail
  refine (jsum_c (k := 1) hd hs hx hX hy hY (by decide) (by decide)).mono ?_; rintro e w2 ⟨v1, rfl, h1, hb2⟩
  have hs := hs.below hb2; have hx := hx.below hb2; have hy := hy.below hb2; have d0 := kept hb2 d0; have d1 := kept hb2 d1; have e0 := kept hb2 e0; have e1 := kept hb2 e1; have f0 := kept hb2 f0; have f1 := kept hb2 f1; have hr := hr.below hb2
  go_wp2_with fail
  have hz0 : Below wq.heap.size wq w2 := (by repeat (first | exact Below.refl _ _ | apply blw_drew | apply blw_alloc | (refine blw_set ?_ (by first | omega | simp <;> omega) _) | refine below_chain ?_ (by assumption)))
  first | (refine hK _ _ ⟨hz0, ?_⟩; clear hK K) | refine ⟨hz0, ?_⟩
  clear hz0
  refine norm_K fun K hK => ?_
  change wpList _ _ _ [_] _ _
  go_wp2_with fail
  refine (adj_c hd hs h1.hv i1).mono ?_; rintro e w3 ⟨v2, rfl, h2, hb3⟩
  have hs := hs.below hb3; have hx := hx.below hb3; have hy := hy.below hb3; have d0 := kept hb3 d0; have d1 := kept hb3 d1; have e0 := kept hb3 e0; have e1 := kept hb3 e1; have f0 := kept hb3 f0; have f1 := kept hb3 f1; have hr := hr.below hb3; have h1 := h1.below hb3
  go_wp2_with fail
  have hz1 : Below wq.heap.size wq w3 := (by repeat (first | exact Below.refl _ _ | apply blw_drew | apply blw_alloc | (refine blw_set ?_ (by first | omega | simp <;> omega) _) | refine below_chain ?_ (by assumption)))
  first | (refine hK _ _ ⟨hz1, ?_⟩; clear hK K) | refine ⟨hz1, ?_⟩
  clear hz1
  refine norm_K fun K hK => ?_
  change wpList _ _ _ [_] _ _
  go_wp2_with fail
  refine (adj_c hd hs hx hX).mono ?_; rintro e w4 ⟨v3, rfl, h3, hb4⟩
  have hs := hs.below hb4; have hx := hx.below hb4; have hy := hy.below hb4; have d0 := kept hb4 d0; have d1 := kept hb4 d1; have e0 := kept hb4 e0; have e1 := kept hb4 e1; have f0 := kept hb4 f0; have f1 := kept hb4 f1; have hr := hr.below hb4; have h1 := h1.below hb4; have h2 := h2.below hb4
  go_wp2_with fail
  have hz2 : Below wq.heap.size wq w4 := (by repeat (first | exact Below.refl _ _ | apply blw_drew | apply blw_alloc | (refine blw_set ?_ (by first | omega | simp <;> omega) _) | refine below_chain ?_ (by assumption)))
  first | (refine hK _ _ ⟨hz2, ?_⟩; clear hK K) | refine ⟨hz2, ?_⟩
  clear hz2
  refine norm_K fun K hK => ?_
  change wpList _ _ _ [_] _ _
  go_wp2_with fail
  refine (jsum_c (k := -1) hd hs h2.hv i2 h3.hv i3 (by decide) (by decide)).mono ?_; rintro e w5 ⟨v4, rfl, h4, hb5⟩
  have hs := hs.below hb5; have hx := hx.below hb5; have hy := hy.below hb5; have d0 := kept hb5 d0; have d1 := kept hb5 d1; have e0 := kept hb5 e0; have e1 := kept hb5 e1; have f0 := kept hb5 f0; have f1 := kept hb5 f1; have hr := hr.below hb5; have h1 := h1.below hb5; have h2 := h2.below hb5; have h3 := h3.below hb5
  go_wp2_with fail
  have hz3 : Below wq.heap.size wq w5 := (by repeat (first | exact Below.refl _ _ | apply blw_drew | apply blw_alloc | (refine blw_set ?_ (by first | omega | simp <;> omega) _) | refine below_chain ?_ (by assumption)))
  first | (refine hK _ _ ⟨hz3, ?_⟩; clear hK K) | refine ⟨hz3, ?_⟩
  clear hz3
  refine norm_K fun K hK => ?_
  change wpList _ _ _ [_] _ _
  go_wp2_with fail
  refine (adj_c hd hs hy hY).mono ?_; rintro e w6 ⟨v5, rfl, h5, hb6⟩
  have hs := hs.below hb6; have hx := hx.below hb6; have hy := hy.below hb6; have d0 := kept hb6 d0; have d1 := kept hb6 d1; have e0 := kept hb6 e0; have e1 := kept hb6 e1; have f0 := kept hb6 f0; have f1 := kept hb6 f1; have hr := hr.below hb6; have h1 := h1.below hb6; have h2 := h2.below hb6; have h3 := h3.below hb6; have h4 := h4.below hb6
  go_wp2_with fail
  have hz4 : Below wq.heap.size wq w6 := (by repeat (first | exact Below.refl _ _ | apply blw_drew | apply blw_alloc | (refine blw_set ?_ (by first | omega | simp <;> omega) _) | refine below_chain ?_ (by assumption)))
  first | (refine hK _ _ ⟨hz4, ?_⟩; clear hK K) | refine ⟨hz4, ?_⟩
  clear hz4
  refine norm_K fun K hK => ?_
  change wpList _ _ _ [_, _] _ _
  have hzc : wq.heap.size ≤ (w6).heap.size := (below_le (by repeat (first | exact Below.refl _ _ | apply blw_drew | apply blw_alloc | (refine blw_set ?_ (by first | omega | simp <;> omega) _) | refine below_chain ?_ (by assumption))))
  go_wp2_with fail
  refine (jsum_c (k := -1) hd hs h4.hv i4 h5.hv i5 (by decide) (by decide)).mono ?_; rintro e w7 ⟨v6, rfl, hv, hb7⟩
  have hs := hs.below hb7; have hx := hx.below hb7; have hy := hy.below hb7; have d0 := kept hb7 d0; have d1 := kept hb7 d1; have e0 := kept hb7 e0; have e1 := kept hb7 e1; have f0 := kept hb7 f0; have f1 := kept hb7 f1; have hr := hr.below hb7; have h1 := h1.below hb7; have h2 := h2.below hb7; have h3 := h3.below hb7; have h4 := h4.below hb7; have h5 := h5.below hb7
  change FrH _ _ _ (crossH p st X Y) at hv
  rw [← HC.out] at hv
  obtain ⟨d, u, us, rfl, ⟨g1, cap1, rfl, q1⟩, hu, hne⟩ := id hv
  obtain ⟨g2, cap2, rfl, _⟩ := id hu
  have hul : us.length = 3 := by obtain ⟨_, _, _, _, h, _⟩ := hu; rw [h, HS4.out]
  have HU := Lib.hid hul; clear hul
  have rc0 := hr.c0; have rc1 := hr.c1; have rf0 := hr.f0; have rf1 := hr.f1
  go_wp2_with fail
  first | (refine hK _ _ ⟨rfl, ?_⟩; clear hK K) | refine ⟨rfl, ?_⟩
  go_wp2_with fail
  refine bodyPost_ret (v := .agg #[.slice (some ⟨g1, 0, none⟩) C.dg.length cap1, .slice (some ⟨g2, 0, none⟩) us.length cap2]) (by simp [results, Tryz.results61, go_sem, rc0, rc1, HU.out, HS4.out]) rfl ⟨_, rfl, ?_, ?_⟩
  · exact ((hv.set_ (by first | omega | simp <;> omega) _).set_ (by first | omega | simp <;> omega) _).more (below_le (by repeat (first | exact Below.refl _ _ | apply blw_drew | apply blw_alloc | (refine blw_set ?_ (by first | omega | simp <;> omega) _) | refine below_chain ?_ (by assumption))))
  · exact blw_set (blw_set (by repeat (first | exact Below.refl _ _ | apply blw_drew | apply blw_alloc | (refine blw_set ?_ (by first | omega | simp <;> omega) _) | refine below_chain ?_ (by assumption))) (by first | omega | simp <;> omega) _) (by first | omega | simp <;> omega) _
set_option maxRecDepth 100000 in
theorem sscale16_c {p k : Int} {s x : Value} {st : List Int} {X : Her} {w : World} (hd : Dok p st) (hs : El w s st) (hx : Hv w x X) (hX : isH p (sz st.length) X = true) (hk1 : -1000000 ≤ k) (hk2 : k ≤ 1000000) :
    Calls Tryz.prog 50 #[.agg #[.int .i64 p, s], .int .i64 k, x] w fun e w' => ∃ v, e = .returned v ∧ FrH w' w.heap.size v (multH p X k) ∧ Below w.heap.size w w' := by
  have hp1 := hd.hp.lo
  have hp2 := hd.hp.hi
  have hsz := sz_le hd
  have i1 := sumH_is (p := p) (k := p - 1) (by omega) hX hX
  have HM := Lib.hid (multH_sum (p := p) (n := k) hX)
  have HN := Lib.hid (sumH_neg (p := p) (X := X) (Y := X))
  have HS4 := Lib.hid (isH_parts (multH_is (p := p) (k := k) (by omega) hX)).2.2.1
  obtain ⟨a0, c0, rfl, _⟩ := id hs.op
  obtain ⟨dv1, uv1, rfl, hd1_, hu1_⟩ := id hx; obtain ⟨a1, c1, rfl, _⟩ := id hd1_.op; obtain ⟨b1, k1, rfl, _⟩ := id hu1_; clear hd1_ hu1_
  go_enter Tryz.func50, Tryz.ntmps50
  have hb0 : Below w.heap.size w (((w.alloc (.cells #[.int .i64 p, .slice a0 st.length c0] 26)).alloc (.cells #[.slice a1 X.dg.length c1, .slice b1 X.up.length k1] 31)).alloc (.cells #[.slice none 0 0, .slice none 0 0] 31)) := (by repeat (first | exact Below.refl _ _ | apply blw_drew | apply blw_alloc | (refine blw_set ?_ (by first | omega | simp <;> omega) _) | refine below_chain ?_ (by assumption)))
  have hs := hs.below hb0; have hx := hx.below hb0
  have d0 : (((w.alloc (.cells #[.int .i64 p, .slice a0 st.length c0] 26)).alloc (.cells #[.slice a1 X.dg.length c1, .slice b1 X.up.length k1] 31)).alloc (.cells #[.slice none 0 0, .slice none 0 0] 31)).cell? ⟨w.heap.size, 0, none⟩ = some (.int .i64 p) := by simp [go_sem]
  have d1 : (((w.alloc (.cells #[.int .i64 p, .slice a0 st.length c0] 26)).alloc (.cells #[.slice a1 X.dg.length c1, .slice b1 X.up.length k1] 31)).alloc (.cells #[.slice none 0 0, .slice none 0 0] 31)).cell? ⟨w.heap.size, 1, none⟩ = some (.slice a0 st.length c0) := by simp [go_sem]
  have e0 : (((w.alloc (.cells #[.int .i64 p, .slice a0 st.length c0] 26)).alloc (.cells #[.slice a1 X.dg.length c1, .slice b1 X.up.length k1] 31)).alloc (.cells #[.slice none 0 0, .slice none 0 0] 31)).cell? ⟨w.heap.size + 1, 0, none⟩ = some (.slice a1 X.dg.length c1) := by simp [go_sem]
  have e1 : (((w.alloc (.cells #[.int .i64 p, .slice a0 st.length c0] 26)).alloc (.cells #[.slice a1 X.dg.length c1, .slice b1 X.up.length k1] 31)).alloc (.cells #[.slice none 0 0, .slice none 0 0] 31)).cell? ⟨w.heap.size + 1, 1, none⟩ = some (.slice b1 X.up.length k1) := by simp [go_sem]
  have r0 : (((w.alloc (.cells #[.int .i64 p, .slice a0 st.length c0] 26)).alloc (.cells #[.slice a1 X.dg.length c1, .slice b1 X.up.length k1] 31)).alloc (.cells #[.slice none 0 0, .slice none 0 0] 31)).cell? ⟨w.heap.size + 1 + 1, 0, none⟩ = some (.slice none 0 0) := by simp [go_sem]
  have r1 : (((w.alloc (.cells #[.int .i64 p, .slice a0 st.length c0] 26)).alloc (.cells #[.slice a1 X.dg.length c1, .slice b1 X.up.length k1] 31)).alloc (.cells #[.slice none 0 0, .slice none 0 0] 31)).cell? ⟨w.heap.size + 1 + 1, 1, none⟩ = some (.slice none 0 0) := by simp [go_sem]
  have hr : Bx (((w.alloc (.cells #[.int .i64 p, .slice a0 st.length c0] 26)).alloc (.cells #[.slice a1 X.dg.length c1, .slice b1 X.up.length k1] 31)).alloc (.cells #[.slice none 0 0, .slice none 0 0] 31)) (w.heap.size + 1 + 1) (.slice none 0 0) (.slice none 0 0) := by rw [show w.heap.size + 1 + 1 = ((w.alloc (.cells #[.int .i64 p, .slice a0 st.length c0] 26)).alloc (.cells #[.slice a1 X.dg.length c1, .slice b1 X.up.length k1] 31)).heap.size by simp]; exact heap_alloc_new _ _
  go_wp2_with fail
  refine region_flow [(false, [(0, 0), (1, 1), (2, 0), (3, 1), (4, 1), (5, 0), (6, 1), (7, 0), (8, 1), (10, 0), (11, 1), (9, 5)]), (false, [(12, 4), (13, 4)])] (by kernel_rfl) ?_
  refine norm_K fun K hK => ?_
  change wpList _ _ _ [_, _, _, _, _, _, _, _, _, _, _, _] _ _
  have hb1 : Below (((w.alloc (.cells #[.int .i64 p, .slice a0 st.length c0] 26)).alloc (.cells #[.slice a1 X.dg.length c1, .slice b1 X.up.length k1] 31)).alloc (.cells #[.slice none 0 0, .slice none 0 0] 31)).heap.size (((w.alloc (.cells #[.int .i64 p, .slice a0 st.length c0] 26)).alloc (.cells #[.slice a1 X.dg.length c1, .slice b1 X.up.length k1] 31)).alloc (.cells #[.slice none 0 0, .slice none 0 0] 31)) (((w.alloc (.cells #[.int .i64 p, .slice a0 st.length c0] 26)).alloc (.cells #[.slice a1 X.dg.length c1, .slice b1 X.up.length k1] 31)).alloc (.cells #[.slice none 0 0, .slice none 0 0] 31)).drew := (by repeat (first | exact Below.refl _ _ | apply blw_drew | apply blw_alloc | (refine blw_set ?_ (by first | omega | simp <;> omega) _) | refine below_chain ?_ (by assumption)))
  have hs := hs.below hb1; have hx := hx.below hb1; have d0 := kept hb1 d0; have d1 := kept hb1 d1; have e0 := kept hb1 e0; have e1 := kept hb1 e1; have hr := hr.below hb1
  generalize (((w.alloc (.cells #[.int .i64 p, .slice a0 st.length c0] 26)).alloc (.cells #[.slice a1 X.dg.length c1, .slice b1 X.up.length k1] 31)).alloc (.cells #[.slice none 0 0, .slice none 0 0] 31)).drew = wq at *
  have hzq := below_le (show Below ((((w.alloc (.cells #[.int .i64 p, .slice a0 st.length c0] 26)).alloc (.cells #[.slice a1 X.dg.length c1, .slice b1 X.up.length k1] 31)).alloc (.cells #[.slice none 0 0, .slice none 0 0] 31))).heap.size ((((w.alloc (.cells #[.int .i64 p, .slice a0 st.length c0] 26)).alloc (.cells #[.slice a1 X.dg.length c1, .slice b1 X.up.length k1] 31)).alloc (.cells #[.slice none 0 0, .slice none 0 0] 31))) wq from (by repeat (first | exact Below.refl _ _ | apply blw_drew | apply blw_alloc | (refine blw_set ?_ (by first | omega | simp <;> omega) _) | refine below_chain ?_ (by assumption))))
  simp at hzq
  go_wp2_with fail
  refine (ssum_c (k := p - 1) (by omega) (by omega) hx hX hx hX (by omega) (by omega) (by omega)).mono ?_; rintro e w2 ⟨v1, rfl, h1, hb2⟩
  have hs := hs.below hb2; have hx := hx.below hb2; have d0 := kept hb2 d0; have d1 := kept hb2 d1; have e0 := kept hb2 e0; have e1 := kept hb2 e1; have hr := hr.below hb2
  go_wp2_with fail
  have hz0 : Below wq.heap.size wq w2 := (by repeat (first | exact Below.refl _ _ | apply blw_drew | apply blw_alloc | (refine blw_set ?_ (by first | omega | simp <;> omega) _) | refine below_chain ?_ (by assumption)))
  first | (refine hK _ _ ⟨hz0, ?_⟩; clear hK K) | refine ⟨hz0, ?_⟩
  clear hz0
  refine norm_K fun K hK => ?_
  change wpList _ _ _ [_, _] _ _
  have hzc : wq.heap.size ≤ (w2).heap.size := (below_le (by repeat (first | exact Below.refl _ _ | apply blw_drew | apply blw_alloc | (refine blw_set ?_ (by first | omega | simp <;> omega) _) | refine below_chain ?_ (by assumption))))
  go_wp2_with fail
  refine (ssum_c (k := k) (by omega) (by omega) h1.hv i1 hx hX (by omega) hk1 hk2).mono ?_; rintro e w3 ⟨v2, rfl, hv, hb3⟩
  have hs := hs.below hb3; have hx := hx.below hb3; have d0 := kept hb3 d0; have d1 := kept hb3 d1; have e0 := kept hb3 e0; have e1 := kept hb3 e1; have hr := hr.below hb3; have h1 := h1.below hb3
  rw [HN.out, HM.out] at hv
  obtain ⟨d, u, us, rfl, ⟨g1, cap1, rfl, q1⟩, hu, hne⟩ := id hv
  obtain ⟨g2, cap2, rfl, _⟩ := id hu
  have hul : us.length = 3 := by obtain ⟨_, _, _, _, h, _⟩ := hu; rw [h, HS4.out]
  have HU := Lib.hid hul; clear hul
  have rc0 := hr.c0; have rc1 := hr.c1; have rf0 := hr.f0; have rf1 := hr.f1
  go_wp2_with fail
  first | (refine hK _ _ ⟨rfl, ?_⟩; clear hK K) | refine ⟨rfl, ?_⟩
  go_wp2_with fail
  refine bodyPost_ret (v := .agg #[.slice (some ⟨g1, 0, none⟩) (multH p X k).dg.length cap1, .slice (some ⟨g2, 0, none⟩) us.length cap2]) (by simp [results, Tryz.results50, go_sem, rc0, rc1, HU.out, HS4.out]) rfl ⟨_, rfl, ?_, ?_⟩
  · exact ((hv.set_ (by first | omega | simp <;> omega) _).set_ (by first | omega | simp <;> omega) _).more (below_le (by repeat (first | exact Below.refl _ _ | apply blw_drew | apply blw_alloc | (refine blw_set ?_ (by first | omega | simp <;> omega) _) | refine below_chain ?_ (by assumption))))
  · exact blw_set (blw_set (by repeat (first | exact Below.refl _ _ | apply blw_drew | apply blw_alloc | (refine blw_set ?_ (by first | omega | simp <;> omega) _) | refine below_chain ?_ (by assumption))) (by first | omega | simp <;> omega) _) (by first | omega | simp <;> omega) _
end Go.Proofs.YtgcelfnjijhmkaaGreat
