/-
  PointAt: the program's and the reference's.
-/
import Derived.Test.YtgcelfnjijhmkaaGreatHcT
import Derived.Test.YtgcelfnjijhmkaaGreatJbb
import Derived.Test.YtgcelfnjijhmkaaGreatJan
namespace Go.Proofs.YtgcelfnjijhmkaaGreat
open Go.RowKit

theorem chk3_pos {p : Int} {st : List Int} {xss : List (List Int)} (h : chk3 p st xss = 0) : Dok p st ∧ ∀ xs ∈ xss, Ev p (sz st.length) xs := by
  unfold chk3 at h
  split at h
  · rename_i h1
    split at h
    · cases h
    · rename_i h2
      split at h
      · rename_i h3
        rw [List.all_eq_true] at h3
        exact ⟨Dok.of h1 h2, fun xs hx => isE_iff.1 (h3 xs hx)⟩
      · cases h
  · cases h
def pointH (p : Int) (st x y : List Int) : Her := ⟨[normL p st x, normL p st y, 1], [y, conjL p x, mulL p st x (conjL p y)]⟩
theorem pointH_is {p : Int} {st x y : List Int} (hp : 2 ≤ p) (hx : Ev p (sz st.length) x) (hy : Ev p (sz st.length) y) : isH p (sz st.length) (pointH p st x y) = true :=
  isH_mk (normL_fp (by omega)) (normL_fp (by omega)) ⟨by omega, by omega⟩ hy (hx.conj (by omega)) (mulL_ev (by omega) hx (hy.conj (by omega)))
theorem OwV.lit3 (w : World) (a b c : Value) : OwV (w.alloc (.cells #[a, b, c] 24)) w.heap.size (.slice (some ⟨w.heap.size, 0, none⟩) 3 3) [a, b, c] :=
  World.ownsRow_lit (base := w.heap.size) (e := 24) (size := 1) w #[a, b, c] 3 (Nat.le_refl _) (by decide) rfl
theorem OwV.more {w : World} {B B' : Nat} {v : Value} {us : List Value} (h : OwV w B v us) (hB : B' ≤ B) : OwV w B' v us := by
  refine ⟨h.1, ?_⟩
  rcases h.2 with h2 | ⟨g', cap', cur, rfl, h3, h4⟩
  · exact .inl h2
  · exact .inr ⟨g', cap', cur, rfl, Nat.le_trans hB h3, h4⟩
theorem frh3 {w : World} {B gd g1 g2 g3 n0 n1 n2 n3 c0 c1 c2 c3 : Nat} {rv : Value} {dg u v t : List Int} (hd : OwnI w B gd n0 c0 dg) (h1 : OwnI w B g1 n1 c1 u) (h2 : OwnI w B g2 n2 c2 v) (h3 : OwnI w B g3 n3 c3 t)
    (ho : OwV w B rv [.slice (some ⟨g1, 0, none⟩) n1 c1, .slice (some ⟨g2, 0, none⟩) n2 c2, .slice (some ⟨g3, 0, none⟩) n3 c3]) (e12 : g1 ≠ g2) (e13 : g1 ≠ g3) (e23 : g2 ≠ g3) (e1 : g1 ≠ gd) (e2 : g2 ≠ gd) (e3 : g3 ≠ gd) :
    FrH w B (.agg #[.slice (some ⟨gd, 0, none⟩) n0 c0, rv]) ⟨dg, [u, v, t]⟩ := by
  refine ⟨_, _, [.slice (some ⟨g1, 0, none⟩) n1 c1, .slice (some ⟨g2, 0, none⟩) n2 c2, .slice (some ⟨g3, 0, none⟩) n3 c3], rfl, hd.fr, frR_mk ⟨rfl, fun j a b => ?_, ?_⟩ ho (Nat.succ_pos _), fun z hz => ?_⟩
  · simp at a
    rcases (show j = 0 ∨ j = 1 ∨ j = 2 by omega) with rfl | rfl | rfl
    · exact h1.fr
    · exact h2.fr
    · exact h3.fr
  · simp [Value.ownBlock, e12, e13, e23]
  · simp only [List.mem_cons, List.not_mem_nil, or_false] at hz
    rcases hz with rfl | rfl | rfl <;> simp [Value.ownBlock, e1, e2, e3]
set_option maxHeartbeats 4000000 in
set_option maxRecDepth 100000 in
theorem sl17_c {p0 : Int} {x0 x1 x2 : Value} {st0 xs1 xs2 : List Int} {w : World} (hd : Dok p0 st0) (hx0 : El w x0 st0) (hx1 : El w x1 xs1) (hx2 : El w x2 xs2) (ex1 : Ev p0 (sz st0.length) xs1) (ex2 : Ev p0 (sz st0.length) xs2) :
    Calls Tryz.prog 38 #[.agg #[.int .i64 p0, x0], x1, x2] w fun e w' => ∃ v, e = .returned v ∧ FrH w' w.heap.size v (pointH p0 st0 xs1 xs2) ∧ Below w.heap.size w w' := by
  obtain ⟨a0, c0, rfl, _⟩ := id hx0.op; obtain ⟨a1, k1, rfl, _⟩ := id hx1.op; obtain ⟨a2, k2, rfl, _⟩ := id hx2.op
  have hp1 := hd.hp.lo; have hp2 := hd.hp.hi; have hsz := sz_le hd
  have ec2 := ex2.conj (by omega)
  have L1 := Lib.hid ex1.1; have L2 := Lib.hid ex2.1; have fx1 := ex1.2; have fx2 := ex2.2
  obtain ⟨m1, hm1_⟩ : ∃ m, m = normL p0 st0 xs1 := ⟨_, rfl⟩
  obtain ⟨m2, hm2_⟩ : ∃ m, m = normL p0 st0 xs2 := ⟨_, rfl⟩
  unfold pointH
  rw [← hm1_, ← hm2_]
  have HM1 := Lib.hid hm1_; have HM2 := Lib.hid hm2_; clear hm1_ hm2_
  go_enter Tryz.func38, Tryz.ntmps38
  have hb0 : Below w.heap.size w ((w.alloc (.cells #[.int .i64 p0, .slice a0 st0.length c0] 26)).alloc (.cells #[.slice none 0 0, .slice none 0 0] 31)) := (by repeat (first | exact .refl _ _ | apply bwD | apply bwA | (refine bwS ?_ (by first | omega | simp <;> omega) _) | refine bwC ?_ (by assumption)))
  have hx0 := hx0.below hb0; have hx1 := hx1.below hb0; have hx2 := hx2.below hb0
  have d0 : ((w.alloc (.cells #[.int .i64 p0, .slice a0 st0.length c0] 26)).alloc (.cells #[.slice none 0 0, .slice none 0 0] 31)).cell? ⟨w.heap.size, 0, none⟩ = some (.int .i64 p0) := by simp [go_sem]
  have d1 : ((w.alloc (.cells #[.int .i64 p0, .slice a0 st0.length c0] 26)).alloc (.cells #[.slice none 0 0, .slice none 0 0] 31)).cell? ⟨w.heap.size, 1, none⟩ = some (.slice a0 st0.length c0) := by simp [go_sem]
  have r0 : ((w.alloc (.cells #[.int .i64 p0, .slice a0 st0.length c0] 26)).alloc (.cells #[.slice none 0 0, .slice none 0 0] 31)).cell? ⟨w.heap.size + 1, 0, none⟩ = some (.slice none 0 0) := by simp [go_sem]
  have r1 : ((w.alloc (.cells #[.int .i64 p0, .slice a0 st0.length c0] 26)).alloc (.cells #[.slice none 0 0, .slice none 0 0] 31)).cell? ⟨w.heap.size + 1, 1, none⟩ = some (.slice none 0 0) := by simp [go_sem]
  have hr : Bx ((w.alloc (.cells #[.int .i64 p0, .slice a0 st0.length c0] 26)).alloc (.cells #[.slice none 0 0, .slice none 0 0] 31)) (w.heap.size + 1) (.slice none 0 0) (.slice none 0 0) := by rw [show w.heap.size + 1 = (w.alloc (.cells #[.int .i64 p0, .slice a0 st0.length c0] 26)).heap.size by simp]; exact heap_alloc_new _ _
  have hbw0 : Below w.heap.size w ((w.alloc (.cells #[.int .i64 p0, .slice a0 st0.length c0] 26)).alloc (.cells #[.slice none 0 0, .slice none 0 0] 31)) := (by repeat (first | exact .refl _ _ | apply bwD | apply bwA | (refine bwS ?_ (by first | omega | simp <;> omega) _) | refine bwC ?_ (by assumption)))
  have hWs : (((w.alloc (.cells #[.int .i64 p0, .slice a0 st0.length c0] 26)).alloc (.cells #[.slice none 0 0, .slice none 0 0] 31))).heap.size = w.heap.size + 1 + 1 := by simp
  go_upto_region 1 with fail
  obtain ⟨W0, hW0⟩ : ∃ W, W = ((w.alloc (.cells #[.int .i64 p0, .slice a0 st0.length c0] 26)).alloc (.cells #[.slice none 0 0, .slice none 0 0] 31)) := ⟨_, rfl⟩
  rw [← hW0] at hbw0 hx0 hx1 hx2 d0 d1 hr hWs ⊢
  clear hW0
  go_cut [] (fun wx => ∃ d u, Bx wx (w.heap.size + 1) d u ∧ FrH wx W0.heap.size (.agg #[d, u]) ⟨[m1, m2, 1], [xs2, conjL p0 xs1, mulL p0 st0 xs1 (conjL p0 xs2)]⟩ ∧ Below w.heap.size w wx)
  case first =>
    refine region_tq [(0, 1), (1, 0), (3, 1), (4, 0), (7, 0), (9, 0), (10, 1), (11, 0), (13, 1), (14, 0), (15, 0), (16, 1), (17, 0)] (.one 2 5 (.one 5 5 (.two 6 5 (.lin [(false, [(8, 5)]), (false, [(12, 5)]), (false, [(18, 5)]), (false, [(19, 4), (20, 4), (21, 0), (22, 4)])]) 8 5 (.two 6 5 (.lin [(false, [(12, 5)]), (false, [(18, 5)]), (false, [(19, 4), (20, 4), (21, 0), (22, 4)])]) 12 5 (.two 6 5 (.lin [(false, [(18, 5)]), (false, [(19, 4), (20, 4), (21, 0), (22, 4)])]) 18 5 (.two 6 5 (.lin [(false, [(19, 4), (20, 4), (21, 0), (22, 4)])]) 19 5 (.two 6 5 (.lin [(false, [(20, 4), (21, 0), (22, 4)])]) 20 5 (.lin [(false, [(6, 5)]), (false, [(21, 0), (22, 4)])])))))))) (by kernel_rfl) ?_
    refine norm_K fun K hK => ?_
    change wpList _ _ _ [_, _, _, _, _, _, _, _, _, _, _, _, _] _ _
    go_wp2_with fail
    have hbq : Below W0.heap.size W0 W0.drew := (by repeat (first | exact .refl _ _ | apply bwD | apply bwA | (refine bwS ?_ (by first | omega | simp <;> omega) _) | refine bwC ?_ (by assumption)))
    have hx0 := hx0.below hbq; have hx1 := hx1.below hbq; have hx2 := hx2.below hbq; have d0 := kept hbq d0; have d1 := kept hbq d1; have hr := hr.below hbq
    have szq : W0.heap.size = W0.drew.heap.size := rfl
    generalize W0.drew = wq at *
    refine hK _ _ ?_; clear hK K
    refine norm_K fun K hK => ?_
    change wpList _ _ _ [_] _ _
    go_wp2_with fail
    refine (snorm_c hd hx0 hx1 ex1).mono ?_; rintro e w41 ⟨rfl, hb41⟩
    have hx0 := hx0.below hb41; have hx1 := hx1.below hb41; have hx2 := hx2.below hb41; have d0 := kept hb41 d0; have d1 := kept hb41 d1; have hr := hr.below hb41
    have sz41 : wq.heap.size ≤ w41.heap.size := hb41.size
    rw [← HM1.out]
    go_wp2_with fail
    first | (refine hK _ _ ⟨(by repeat (first | exact .refl _ _ | apply bwD | apply bwA | (refine bwS ?_ (by first | omega | simp <;> omega) _) | refine bwC ?_ (by assumption))), ?_⟩; clear hK K) | refine ⟨(by repeat (first | exact .refl _ _ | apply bwD | apply bwA | (refine bwS ?_ (by first | omega | simp <;> omega) _) | refine bwC ?_ (by assumption))), ?_⟩
    refine norm_K fun K hK => ?_
    change wpList _ _ _ [_] _ _
    go_wp2_with fail
    refine (snorm_c hd hx0 hx2 ex2).mono ?_; rintro e w42 ⟨rfl, hb42⟩
    have hx0 := hx0.below hb42; have hx1 := hx1.below hb42; have hx2 := hx2.below hb42; have d0 := kept hb42 d0; have d1 := kept hb42 d1; have hr := hr.below hb42
    have sz42 : w41.heap.size ≤ w42.heap.size := hb42.size
    rw [← HM2.out]
    go_wp2_with fail
    first | (refine hK _ _ ⟨(by repeat (first | exact .refl _ _ | apply bwD | apply bwA | (refine bwS ?_ (by first | omega | simp <;> omega) _) | refine bwC ?_ (by assumption))), ?_⟩; clear hK K) | refine ⟨(by repeat (first | exact .refl _ _ | apply bwD | apply bwA | (refine bwS ?_ (by first | omega | simp <;> omega) _) | refine bwC ?_ (by assumption))), ?_⟩
    refine ⟨?_, ?_⟩
    · skip
      refine norm_K fun K hK => ?_
      change wpList _ _ _ [_] _ _
      go_wp2_with fail
      have hb43 : Below w42.heap.size w42 (w42.alloc (.cells #[.int .i64 m1, .int .i64 m2, .int .i64 1] 2)) := (by repeat (first | exact .refl _ _ | apply bwD | apply bwA | (refine bwS ?_ (by first | omega | simp <;> omega) _) | refine bwC ?_ (by assumption)))
      have hx0 := hx0.below hb43; have hx1 := hx1.below hb43; have hx2 := hx2.below hb43; have d0 := kept hb43 d0; have d1 := kept hb43 d1; have hr := hr.below hb43
      have ol : OwnI (w42.alloc (.cells #[.int .i64 m1, .int .i64 m2, .int .i64 1] 2)) w42.heap.size w42.heap.size 3 3 [m1, m2, 1] := OwnI.lit (Nat.le_refl _) [m1, m2, 1] (by simp); have ltl := ol.lt
      have sz43 : w42.heap.size + 1 = (w42.alloc (.cells #[.int .i64 m1, .int .i64 m2, .int .i64 1] 2)).heap.size := by simp
      obtain ⟨w43, hw_⟩ : ∃ x, x = (w42.alloc (.cells #[.int .i64 m1, .int .i64 m2, .int .i64 1] 2)) := ⟨_, rfl⟩
      rw [← hw_] at hb43 sz43 hx0 hx1 hx2 d0 d1 hr ol ⊢; clear hw_
      go_wp2_with fail
      first | (refine hK _ _ ⟨(by repeat (first | exact .refl _ _ | apply bwD | apply bwA | (refine bwS ?_ (by first | omega | simp <;> omega) _) | refine bwC ?_ (by assumption))), ?_⟩; clear hK K) | refine ⟨(by repeat (first | exact .refl _ _ | apply bwD | apply bwA | (refine bwS ?_ (by first | omega | simp <;> omega) _) | refine bwC ?_ (by assumption))), ?_⟩
      refine norm_K fun K hK => ?_
      change wpList _ _ _ [_] _ _
      go_wp2_with fail
      refine (own_c hx2.sl (by rw [L2.out]; omega) (by rw [L2.out]; omega)).mono ?_; rintro e w44 ⟨v_, rfl, ⟨g8, c8, rfl, o8⟩, hb44⟩
      have hx0 := hx0.below hb44; have hx1 := hx1.below hb44; have hx2 := hx2.below hb44; have d0 := kept hb44 d0; have d1 := kept hb44 d1; have hr := hr.below hb44; have ol := ol.below hb44
      have sz44 : w43.heap.size ≤ w44.heap.size := hb44.size
      have lt8 := o8.lt
      go_wp2_with fail
      first | (refine hK _ _ ⟨(by repeat (first | exact .refl _ _ | apply bwD | apply bwA | (refine bwS ?_ (by first | omega | simp <;> omega) _) | refine bwC ?_ (by assumption))), ?_⟩; clear hK K) | refine ⟨(by repeat (first | exact .refl _ _ | apply bwD | apply bwA | (refine bwS ?_ (by first | omega | simp <;> omega) _) | refine bwC ?_ (by assumption))), ?_⟩
      refine norm_K fun K hK => ?_
      change wpList _ _ _ [_] _ _
      go_wp2_with fail
      refine (sstar_c (by omega) (by omega) hx1 (by rw [L1.out]; omega) fx1 (by rw [L1.out]; omega)).mono ?_; rintro e w45 ⟨v_, rfl, ⟨g11, c11, rfl, o11⟩, hb45⟩
      have hx0 := hx0.below hb45; have hx1 := hx1.below hb45; have hx2 := hx2.below hb45; have d0 := kept hb45 d0; have d1 := kept hb45 d1; have hr := hr.below hb45; have ol := ol.below hb45; have o8 := o8.below hb45
      have sz45 : w44.heap.size ≤ w45.heap.size := hb45.size
      have lt11 := o11.lt
      go_wp2_with fail
      first | (refine hK _ _ ⟨(by repeat (first | exact .refl _ _ | apply bwD | apply bwA | (refine bwS ?_ (by first | omega | simp <;> omega) _) | refine bwC ?_ (by assumption))), ?_⟩; clear hK K) | refine ⟨(by repeat (first | exact .refl _ _ | apply bwD | apply bwA | (refine bwS ?_ (by first | omega | simp <;> omega) _) | refine bwC ?_ (by assumption))), ?_⟩
      refine norm_K fun K hK => ?_
      change wpList _ _ _ [_] _ _
      go_wp2_with fail
      refine (sstar_c (by omega) (by omega) hx2 (by rw [L2.out]; omega) fx2 (by rw [L2.out]; omega)).mono ?_; rintro e w46 ⟨v_, rfl, h16, hb46⟩
      have hx0 := hx0.below hb46; have hx1 := hx1.below hb46; have hx2 := hx2.below hb46; have d0 := kept hb46 d0; have d1 := kept hb46 d1; have hr := hr.below hb46; have ol := ol.below hb46; have o8 := o8.below hb46; have o11 := o11.below hb46
      have sz46 : w45.heap.size ≤ w46.heap.size := hb46.size
      go_wp2_with fail
      first | (refine hK _ _ ⟨(by repeat (first | exact .refl _ _ | apply bwD | apply bwA | (refine bwS ?_ (by first | omega | simp <;> omega) _) | refine bwC ?_ (by assumption))), ?_⟩; clear hK K) | refine ⟨(by repeat (first | exact .refl _ _ | apply bwD | apply bwA | (refine bwS ?_ (by first | omega | simp <;> omega) _) | refine bwC ?_ (by assumption))), ?_⟩
      refine norm_K fun K hK => ?_
      change wpList _ _ _ [_, _, _, _] _ _
      go_wp2_with fail
      refine (stimes_c hd hx0 hx1 h16.el ex1 ec2).mono ?_; rintro e w47 ⟨v_, rfl, ⟨g17, c17, rfl, o17⟩, hb47⟩
      have hx0 := hx0.below hb47; have hx1 := hx1.below hb47; have hx2 := hx2.below hb47; have d0 := kept hb47 d0; have d1 := kept hb47 d1; have hr := hr.below hb47; have ol := ol.below hb47; have o8 := o8.below hb47; have o11 := o11.below hb47; have h16 := h16.below hb47
      have sz47 : w46.heap.size ≤ w47.heap.size := hb47.size
      have lt17 := o17.lt
      have hb48 : Below w47.heap.size w47 (w47.alloc (.cells #[.slice (some ⟨g8, 0, none⟩) xs2.length c8, .slice (some ⟨g11, 0, none⟩) (conjL p0 xs1).length c11, .slice (some ⟨g17, 0, none⟩) (mulL p0 st0 xs1 (conjL p0 xs2)).length c17] 24)) := (by repeat (first | exact .refl _ _ | apply bwD | apply bwA | (refine bwS ?_ (by first | omega | simp <;> omega) _) | refine bwC ?_ (by assumption)))
      have hx0 := hx0.below hb48; have hx1 := hx1.below hb48; have hx2 := hx2.below hb48; have d0 := kept hb48 d0; have d1 := kept hb48 d1; have hr := hr.below hb48; have ol := ol.below hb48; have o8 := o8.below hb48; have o11 := o11.below hb48; have h16 := h16.below hb48; have o17 := o17.below hb48
      have ho : OwV (w47.alloc (.cells #[.slice (some ⟨g8, 0, none⟩) xs2.length c8, .slice (some ⟨g11, 0, none⟩) (conjL p0 xs1).length c11, .slice (some ⟨g17, 0, none⟩) (mulL p0 st0 xs1 (conjL p0 xs2)).length c17] 24)) w47.heap.size (.slice (some ⟨w47.heap.size, 0, none⟩) 3 3) _ := OwV.lit3 w47 _ _ _
      have sz48 : w47.heap.size + 1 = (w47.alloc (.cells #[.slice (some ⟨g8, 0, none⟩) xs2.length c8, .slice (some ⟨g11, 0, none⟩) (conjL p0 xs1).length c11, .slice (some ⟨g17, 0, none⟩) (mulL p0 st0 xs1 (conjL p0 xs2)).length c17] 24)).heap.size := by simp
      have rc0 := hr.c0; have rc1 := hr.c1; have rf0 := hr.f0; have rf1 := hr.f1
      go_wp2_with fail
      first | (refine hK _ _ ⟨rfl, ?_⟩; clear hK K) | refine ⟨rfl, ?_⟩
      go_wp2_with fail
      go_meet
      have hF := frh3 (ol.rebase (B' := W0.heap.size) (by omega)) (o8.rebase (B' := W0.heap.size) (by omega)) (o11.rebase (B' := W0.heap.size) (by omega)) (o17.rebase (B' := W0.heap.size) (by omega)) (ho.more (B' := W0.heap.size) (by omega)) (by omega) (by omega) (by omega) (by omega) (by omega) (by omega)
      case rel => exact ⟨_, _, (hr.set0 _).set1 _, (hF.set_ (by show w.heap.size + 1 < W0.heap.size; omega) _).set_ (by show w.heap.size + 1 < W0.heap.size; omega) _, (by repeat (first | exact .refl _ _ | apply bwD | apply bwA | (refine bwS ?_ (by first | omega | simp <;> omega) _) | refine bwC ?_ (by assumption)))⟩
    · skip
      refine norm_K fun K hK => ?_
      change wpList _ _ _ [_] _ _
      go_wp2_with fail
      refine (own_c hx2.sl (by rw [L2.out]; omega) (by rw [L2.out]; omega)).mono ?_; rintro e w43 ⟨v_, rfl, ⟨g8, c8, rfl, o8⟩, hb43⟩
      have hx0 := hx0.below hb43; have hx1 := hx1.below hb43; have hx2 := hx2.below hb43; have d0 := kept hb43 d0; have d1 := kept hb43 d1; have hr := hr.below hb43
      have sz43 : w42.heap.size ≤ w43.heap.size := hb43.size
      have lt8 := o8.lt
      go_wp2_with fail
      first | (refine hK _ _ ⟨(by repeat (first | exact .refl _ _ | apply bwD | apply bwA | (refine bwS ?_ (by first | omega | simp <;> omega) _) | refine bwC ?_ (by assumption))), ?_⟩; clear hK K) | refine ⟨(by repeat (first | exact .refl _ _ | apply bwD | apply bwA | (refine bwS ?_ (by first | omega | simp <;> omega) _) | refine bwC ?_ (by assumption))), ?_⟩
      refine ⟨?_, ?_⟩
      · skip
        refine norm_K fun K hK => ?_
        change wpList _ _ _ [_] _ _
        go_wp2_with fail
        have hb44 : Below w43.heap.size w43 (w43.alloc (.cells #[.int .i64 m1, .int .i64 m2, .int .i64 1] 2)) := (by repeat (first | exact .refl _ _ | apply bwD | apply bwA | (refine bwS ?_ (by first | omega | simp <;> omega) _) | refine bwC ?_ (by assumption)))
        have hx0 := hx0.below hb44; have hx1 := hx1.below hb44; have hx2 := hx2.below hb44; have d0 := kept hb44 d0; have d1 := kept hb44 d1; have hr := hr.below hb44; have o8 := o8.below hb44
        have ol : OwnI (w43.alloc (.cells #[.int .i64 m1, .int .i64 m2, .int .i64 1] 2)) w43.heap.size w43.heap.size 3 3 [m1, m2, 1] := OwnI.lit (Nat.le_refl _) [m1, m2, 1] (by simp); have ltl := ol.lt
        have sz44 : w43.heap.size + 1 = (w43.alloc (.cells #[.int .i64 m1, .int .i64 m2, .int .i64 1] 2)).heap.size := by simp
        obtain ⟨w44, hw_⟩ : ∃ x, x = (w43.alloc (.cells #[.int .i64 m1, .int .i64 m2, .int .i64 1] 2)) := ⟨_, rfl⟩
        rw [← hw_] at hb44 sz44 hx0 hx1 hx2 d0 d1 hr o8 ol ⊢; clear hw_
        go_wp2_with fail
        first | (refine hK _ _ ⟨(by repeat (first | exact .refl _ _ | apply bwD | apply bwA | (refine bwS ?_ (by first | omega | simp <;> omega) _) | refine bwC ?_ (by assumption))), ?_⟩; clear hK K) | refine ⟨(by repeat (first | exact .refl _ _ | apply bwD | apply bwA | (refine bwS ?_ (by first | omega | simp <;> omega) _) | refine bwC ?_ (by assumption))), ?_⟩
        refine norm_K fun K hK => ?_
        change wpList _ _ _ [_] _ _
        go_wp2_with fail
        refine (sstar_c (by omega) (by omega) hx1 (by rw [L1.out]; omega) fx1 (by rw [L1.out]; omega)).mono ?_; rintro e w45 ⟨v_, rfl, ⟨g11, c11, rfl, o11⟩, hb45⟩
        have hx0 := hx0.below hb45; have hx1 := hx1.below hb45; have hx2 := hx2.below hb45; have d0 := kept hb45 d0; have d1 := kept hb45 d1; have hr := hr.below hb45; have o8 := o8.below hb45; have ol := ol.below hb45
        have sz45 : w44.heap.size ≤ w45.heap.size := hb45.size
        have lt11 := o11.lt
        go_wp2_with fail
        first | (refine hK _ _ ⟨(by repeat (first | exact .refl _ _ | apply bwD | apply bwA | (refine bwS ?_ (by first | omega | simp <;> omega) _) | refine bwC ?_ (by assumption))), ?_⟩; clear hK K) | refine ⟨(by repeat (first | exact .refl _ _ | apply bwD | apply bwA | (refine bwS ?_ (by first | omega | simp <;> omega) _) | refine bwC ?_ (by assumption))), ?_⟩
        refine norm_K fun K hK => ?_
        change wpList _ _ _ [_] _ _
        go_wp2_with fail
        refine (sstar_c (by omega) (by omega) hx2 (by rw [L2.out]; omega) fx2 (by rw [L2.out]; omega)).mono ?_; rintro e w46 ⟨v_, rfl, h16, hb46⟩
        have hx0 := hx0.below hb46; have hx1 := hx1.below hb46; have hx2 := hx2.below hb46; have d0 := kept hb46 d0; have d1 := kept hb46 d1; have hr := hr.below hb46; have o8 := o8.below hb46; have ol := ol.below hb46; have o11 := o11.below hb46
        have sz46 : w45.heap.size ≤ w46.heap.size := hb46.size
        go_wp2_with fail
        first | (refine hK _ _ ⟨(by repeat (first | exact .refl _ _ | apply bwD | apply bwA | (refine bwS ?_ (by first | omega | simp <;> omega) _) | refine bwC ?_ (by assumption))), ?_⟩; clear hK K) | refine ⟨(by repeat (first | exact .refl _ _ | apply bwD | apply bwA | (refine bwS ?_ (by first | omega | simp <;> omega) _) | refine bwC ?_ (by assumption))), ?_⟩
        refine norm_K fun K hK => ?_
        change wpList _ _ _ [_, _, _, _] _ _
        go_wp2_with fail
        refine (stimes_c hd hx0 hx1 h16.el ex1 ec2).mono ?_; rintro e w47 ⟨v_, rfl, ⟨g17, c17, rfl, o17⟩, hb47⟩
        have hx0 := hx0.below hb47; have hx1 := hx1.below hb47; have hx2 := hx2.below hb47; have d0 := kept hb47 d0; have d1 := kept hb47 d1; have hr := hr.below hb47; have o8 := o8.below hb47; have ol := ol.below hb47; have o11 := o11.below hb47; have h16 := h16.below hb47
        have sz47 : w46.heap.size ≤ w47.heap.size := hb47.size
        have lt17 := o17.lt
        have hb48 : Below w47.heap.size w47 (w47.alloc (.cells #[.slice (some ⟨g8, 0, none⟩) xs2.length c8, .slice (some ⟨g11, 0, none⟩) (conjL p0 xs1).length c11, .slice (some ⟨g17, 0, none⟩) (mulL p0 st0 xs1 (conjL p0 xs2)).length c17] 24)) := (by repeat (first | exact .refl _ _ | apply bwD | apply bwA | (refine bwS ?_ (by first | omega | simp <;> omega) _) | refine bwC ?_ (by assumption)))
        have hx0 := hx0.below hb48; have hx1 := hx1.below hb48; have hx2 := hx2.below hb48; have d0 := kept hb48 d0; have d1 := kept hb48 d1; have hr := hr.below hb48; have o8 := o8.below hb48; have ol := ol.below hb48; have o11 := o11.below hb48; have h16 := h16.below hb48; have o17 := o17.below hb48
        have ho : OwV (w47.alloc (.cells #[.slice (some ⟨g8, 0, none⟩) xs2.length c8, .slice (some ⟨g11, 0, none⟩) (conjL p0 xs1).length c11, .slice (some ⟨g17, 0, none⟩) (mulL p0 st0 xs1 (conjL p0 xs2)).length c17] 24)) w47.heap.size (.slice (some ⟨w47.heap.size, 0, none⟩) 3 3) _ := OwV.lit3 w47 _ _ _
        have sz48 : w47.heap.size + 1 = (w47.alloc (.cells #[.slice (some ⟨g8, 0, none⟩) xs2.length c8, .slice (some ⟨g11, 0, none⟩) (conjL p0 xs1).length c11, .slice (some ⟨g17, 0, none⟩) (mulL p0 st0 xs1 (conjL p0 xs2)).length c17] 24)).heap.size := by simp
        have rc0 := hr.c0; have rc1 := hr.c1; have rf0 := hr.f0; have rf1 := hr.f1
        go_wp2_with fail
        first | (refine hK _ _ ⟨rfl, ?_⟩; clear hK K) | refine ⟨rfl, ?_⟩
        go_wp2_with fail
        go_meet
        have hF := frh3 (ol.rebase (B' := W0.heap.size) (by omega)) (o8.rebase (B' := W0.heap.size) (by omega)) (o11.rebase (B' := W0.heap.size) (by omega)) (o17.rebase (B' := W0.heap.size) (by omega)) (ho.more (B' := W0.heap.size) (by omega)) (by omega) (by omega) (by omega) (by omega) (by omega) (by omega)
        case rel => exact ⟨_, _, (hr.set0 _).set1 _, (hF.set_ (by show w.heap.size + 1 < W0.heap.size; omega) _).set_ (by show w.heap.size + 1 < W0.heap.size; omega) _, (by repeat (first | exact .refl _ _ | apply bwD | apply bwA | (refine bwS ?_ (by first | omega | simp <;> omega) _) | refine bwC ?_ (by assumption)))⟩
      · skip
        refine norm_K fun K hK => ?_
        change wpList _ _ _ [_] _ _
        go_wp2_with fail
        refine (sstar_c (by omega) (by omega) hx1 (by rw [L1.out]; omega) fx1 (by rw [L1.out]; omega)).mono ?_; rintro e w44 ⟨v_, rfl, ⟨g11, c11, rfl, o11⟩, hb44⟩
        have hx0 := hx0.below hb44; have hx1 := hx1.below hb44; have hx2 := hx2.below hb44; have d0 := kept hb44 d0; have d1 := kept hb44 d1; have hr := hr.below hb44; have o8 := o8.below hb44
        have sz44 : w43.heap.size ≤ w44.heap.size := hb44.size
        have lt11 := o11.lt
        go_wp2_with fail
        first | (refine hK _ _ ⟨(by repeat (first | exact .refl _ _ | apply bwD | apply bwA | (refine bwS ?_ (by first | omega | simp <;> omega) _) | refine bwC ?_ (by assumption))), ?_⟩; clear hK K) | refine ⟨(by repeat (first | exact .refl _ _ | apply bwD | apply bwA | (refine bwS ?_ (by first | omega | simp <;> omega) _) | refine bwC ?_ (by assumption))), ?_⟩
        refine ⟨?_, ?_⟩
        · skip
          refine norm_K fun K hK => ?_
          change wpList _ _ _ [_] _ _
          go_wp2_with fail
          have hb45 : Below w44.heap.size w44 (w44.alloc (.cells #[.int .i64 m1, .int .i64 m2, .int .i64 1] 2)) := (by repeat (first | exact .refl _ _ | apply bwD | apply bwA | (refine bwS ?_ (by first | omega | simp <;> omega) _) | refine bwC ?_ (by assumption)))
          have hx0 := hx0.below hb45; have hx1 := hx1.below hb45; have hx2 := hx2.below hb45; have d0 := kept hb45 d0; have d1 := kept hb45 d1; have hr := hr.below hb45; have o8 := o8.below hb45; have o11 := o11.below hb45
          have ol : OwnI (w44.alloc (.cells #[.int .i64 m1, .int .i64 m2, .int .i64 1] 2)) w44.heap.size w44.heap.size 3 3 [m1, m2, 1] := OwnI.lit (Nat.le_refl _) [m1, m2, 1] (by simp); have ltl := ol.lt
          have sz45 : w44.heap.size + 1 = (w44.alloc (.cells #[.int .i64 m1, .int .i64 m2, .int .i64 1] 2)).heap.size := by simp
          obtain ⟨w45, hw_⟩ : ∃ x, x = (w44.alloc (.cells #[.int .i64 m1, .int .i64 m2, .int .i64 1] 2)) := ⟨_, rfl⟩
          rw [← hw_] at hb45 sz45 hx0 hx1 hx2 d0 d1 hr o8 o11 ol ⊢; clear hw_
          go_wp2_with fail
          first | (refine hK _ _ ⟨(by repeat (first | exact .refl _ _ | apply bwD | apply bwA | (refine bwS ?_ (by first | omega | simp <;> omega) _) | refine bwC ?_ (by assumption))), ?_⟩; clear hK K) | refine ⟨(by repeat (first | exact .refl _ _ | apply bwD | apply bwA | (refine bwS ?_ (by first | omega | simp <;> omega) _) | refine bwC ?_ (by assumption))), ?_⟩
          refine norm_K fun K hK => ?_
          change wpList _ _ _ [_] _ _
          go_wp2_with fail
          refine (sstar_c (by omega) (by omega) hx2 (by rw [L2.out]; omega) fx2 (by rw [L2.out]; omega)).mono ?_; rintro e w46 ⟨v_, rfl, h16, hb46⟩
          have hx0 := hx0.below hb46; have hx1 := hx1.below hb46; have hx2 := hx2.below hb46; have d0 := kept hb46 d0; have d1 := kept hb46 d1; have hr := hr.below hb46; have o8 := o8.below hb46; have o11 := o11.below hb46; have ol := ol.below hb46
          have sz46 : w45.heap.size ≤ w46.heap.size := hb46.size
          go_wp2_with fail
          first | (refine hK _ _ ⟨(by repeat (first | exact .refl _ _ | apply bwD | apply bwA | (refine bwS ?_ (by first | omega | simp <;> omega) _) | refine bwC ?_ (by assumption))), ?_⟩; clear hK K) | refine ⟨(by repeat (first | exact .refl _ _ | apply bwD | apply bwA | (refine bwS ?_ (by first | omega | simp <;> omega) _) | refine bwC ?_ (by assumption))), ?_⟩
          refine norm_K fun K hK => ?_
          change wpList _ _ _ [_, _, _, _] _ _
          go_wp2_with fail
          refine (stimes_c hd hx0 hx1 h16.el ex1 ec2).mono ?_; rintro e w47 ⟨v_, rfl, ⟨g17, c17, rfl, o17⟩, hb47⟩
          have hx0 := hx0.below hb47; have hx1 := hx1.below hb47; have hx2 := hx2.below hb47; have d0 := kept hb47 d0; have d1 := kept hb47 d1; have hr := hr.below hb47; have o8 := o8.below hb47; have o11 := o11.below hb47; have ol := ol.below hb47; have h16 := h16.below hb47
          have sz47 : w46.heap.size ≤ w47.heap.size := hb47.size
          have lt17 := o17.lt
          have hb48 : Below w47.heap.size w47 (w47.alloc (.cells #[.slice (some ⟨g8, 0, none⟩) xs2.length c8, .slice (some ⟨g11, 0, none⟩) (conjL p0 xs1).length c11, .slice (some ⟨g17, 0, none⟩) (mulL p0 st0 xs1 (conjL p0 xs2)).length c17] 24)) := (by repeat (first | exact .refl _ _ | apply bwD | apply bwA | (refine bwS ?_ (by first | omega | simp <;> omega) _) | refine bwC ?_ (by assumption)))
          have hx0 := hx0.below hb48; have hx1 := hx1.below hb48; have hx2 := hx2.below hb48; have d0 := kept hb48 d0; have d1 := kept hb48 d1; have hr := hr.below hb48; have o8 := o8.below hb48; have o11 := o11.below hb48; have ol := ol.below hb48; have h16 := h16.below hb48; have o17 := o17.below hb48
          have ho : OwV (w47.alloc (.cells #[.slice (some ⟨g8, 0, none⟩) xs2.length c8, .slice (some ⟨g11, 0, none⟩) (conjL p0 xs1).length c11, .slice (some ⟨g17, 0, none⟩) (mulL p0 st0 xs1 (conjL p0 xs2)).length c17] 24)) w47.heap.size (.slice (some ⟨w47.heap.size, 0, none⟩) 3 3) _ := OwV.lit3 w47 _ _ _
          have sz48 : w47.heap.size + 1 = (w47.alloc (.cells #[.slice (some ⟨g8, 0, none⟩) xs2.length c8, .slice (some ⟨g11, 0, none⟩) (conjL p0 xs1).length c11, .slice (some ⟨g17, 0, none⟩) (mulL p0 st0 xs1 (conjL p0 xs2)).length c17] 24)).heap.size := by simp
          have rc0 := hr.c0; have rc1 := hr.c1; have rf0 := hr.f0; have rf1 := hr.f1
          go_wp2_with fail
          first | (refine hK _ _ ⟨rfl, ?_⟩; clear hK K) | refine ⟨rfl, ?_⟩
          go_wp2_with fail
          go_meet
          have hF := frh3 (ol.rebase (B' := W0.heap.size) (by omega)) (o8.rebase (B' := W0.heap.size) (by omega)) (o11.rebase (B' := W0.heap.size) (by omega)) (o17.rebase (B' := W0.heap.size) (by omega)) (ho.more (B' := W0.heap.size) (by omega)) (by omega) (by omega) (by omega) (by omega) (by omega) (by omega)
          case rel => exact ⟨_, _, (hr.set0 _).set1 _, (hF.set_ (by show w.heap.size + 1 < W0.heap.size; omega) _).set_ (by show w.heap.size + 1 < W0.heap.size; omega) _, (by repeat (first | exact .refl _ _ | apply bwD | apply bwA | (refine bwS ?_ (by first | omega | simp <;> omega) _) | refine bwC ?_ (by assumption)))⟩
        · skip
          refine norm_K fun K hK => ?_
          change wpList _ _ _ [_] _ _
          go_wp2_with fail
          refine (sstar_c (by omega) (by omega) hx2 (by rw [L2.out]; omega) fx2 (by rw [L2.out]; omega)).mono ?_; rintro e w45 ⟨v_, rfl, h16, hb45⟩
          have hx0 := hx0.below hb45; have hx1 := hx1.below hb45; have hx2 := hx2.below hb45; have d0 := kept hb45 d0; have d1 := kept hb45 d1; have hr := hr.below hb45; have o8 := o8.below hb45; have o11 := o11.below hb45
          have sz45 : w44.heap.size ≤ w45.heap.size := hb45.size
          go_wp2_with fail
          first | (refine hK _ _ ⟨(by repeat (first | exact .refl _ _ | apply bwD | apply bwA | (refine bwS ?_ (by first | omega | simp <;> omega) _) | refine bwC ?_ (by assumption))), ?_⟩; clear hK K) | refine ⟨(by repeat (first | exact .refl _ _ | apply bwD | apply bwA | (refine bwS ?_ (by first | omega | simp <;> omega) _) | refine bwC ?_ (by assumption))), ?_⟩
          refine ⟨?_, ?_⟩
          · skip
            refine norm_K fun K hK => ?_
            change wpList _ _ _ [_] _ _
            go_wp2_with fail
            have hb46 : Below w45.heap.size w45 (w45.alloc (.cells #[.int .i64 m1, .int .i64 m2, .int .i64 1] 2)) := (by repeat (first | exact .refl _ _ | apply bwD | apply bwA | (refine bwS ?_ (by first | omega | simp <;> omega) _) | refine bwC ?_ (by assumption)))
            have hx0 := hx0.below hb46; have hx1 := hx1.below hb46; have hx2 := hx2.below hb46; have d0 := kept hb46 d0; have d1 := kept hb46 d1; have hr := hr.below hb46; have o8 := o8.below hb46; have o11 := o11.below hb46; have h16 := h16.below hb46
            have ol : OwnI (w45.alloc (.cells #[.int .i64 m1, .int .i64 m2, .int .i64 1] 2)) w45.heap.size w45.heap.size 3 3 [m1, m2, 1] := OwnI.lit (Nat.le_refl _) [m1, m2, 1] (by simp); have ltl := ol.lt
            have sz46 : w45.heap.size + 1 = (w45.alloc (.cells #[.int .i64 m1, .int .i64 m2, .int .i64 1] 2)).heap.size := by simp
            obtain ⟨w46, hw_⟩ : ∃ x, x = (w45.alloc (.cells #[.int .i64 m1, .int .i64 m2, .int .i64 1] 2)) := ⟨_, rfl⟩
            rw [← hw_] at hb46 sz46 hx0 hx1 hx2 d0 d1 hr o8 o11 h16 ol ⊢; clear hw_
            go_wp2_with fail
            first | (refine hK _ _ ⟨(by repeat (first | exact .refl _ _ | apply bwD | apply bwA | (refine bwS ?_ (by first | omega | simp <;> omega) _) | refine bwC ?_ (by assumption))), ?_⟩; clear hK K) | refine ⟨(by repeat (first | exact .refl _ _ | apply bwD | apply bwA | (refine bwS ?_ (by first | omega | simp <;> omega) _) | refine bwC ?_ (by assumption))), ?_⟩
            refine norm_K fun K hK => ?_
            change wpList _ _ _ [_, _, _, _] _ _
            go_wp2_with fail
            refine (stimes_c hd hx0 hx1 h16.el ex1 ec2).mono ?_; rintro e w47 ⟨v_, rfl, ⟨g17, c17, rfl, o17⟩, hb47⟩
            have hx0 := hx0.below hb47; have hx1 := hx1.below hb47; have hx2 := hx2.below hb47; have d0 := kept hb47 d0; have d1 := kept hb47 d1; have hr := hr.below hb47; have o8 := o8.below hb47; have o11 := o11.below hb47; have h16 := h16.below hb47; have ol := ol.below hb47
            have sz47 : w46.heap.size ≤ w47.heap.size := hb47.size
            have lt17 := o17.lt
            have hb48 : Below w47.heap.size w47 (w47.alloc (.cells #[.slice (some ⟨g8, 0, none⟩) xs2.length c8, .slice (some ⟨g11, 0, none⟩) (conjL p0 xs1).length c11, .slice (some ⟨g17, 0, none⟩) (mulL p0 st0 xs1 (conjL p0 xs2)).length c17] 24)) := (by repeat (first | exact .refl _ _ | apply bwD | apply bwA | (refine bwS ?_ (by first | omega | simp <;> omega) _) | refine bwC ?_ (by assumption)))
            have hx0 := hx0.below hb48; have hx1 := hx1.below hb48; have hx2 := hx2.below hb48; have d0 := kept hb48 d0; have d1 := kept hb48 d1; have hr := hr.below hb48; have o8 := o8.below hb48; have o11 := o11.below hb48; have h16 := h16.below hb48; have ol := ol.below hb48; have o17 := o17.below hb48
            have ho : OwV (w47.alloc (.cells #[.slice (some ⟨g8, 0, none⟩) xs2.length c8, .slice (some ⟨g11, 0, none⟩) (conjL p0 xs1).length c11, .slice (some ⟨g17, 0, none⟩) (mulL p0 st0 xs1 (conjL p0 xs2)).length c17] 24)) w47.heap.size (.slice (some ⟨w47.heap.size, 0, none⟩) 3 3) _ := OwV.lit3 w47 _ _ _
            have sz48 : w47.heap.size + 1 = (w47.alloc (.cells #[.slice (some ⟨g8, 0, none⟩) xs2.length c8, .slice (some ⟨g11, 0, none⟩) (conjL p0 xs1).length c11, .slice (some ⟨g17, 0, none⟩) (mulL p0 st0 xs1 (conjL p0 xs2)).length c17] 24)).heap.size := by simp
            have rc0 := hr.c0; have rc1 := hr.c1; have rf0 := hr.f0; have rf1 := hr.f1
            go_wp2_with fail
            first | (refine hK _ _ ⟨rfl, ?_⟩; clear hK K) | refine ⟨rfl, ?_⟩
            go_wp2_with fail
            go_meet
            have hF := frh3 (ol.rebase (B' := W0.heap.size) (by omega)) (o8.rebase (B' := W0.heap.size) (by omega)) (o11.rebase (B' := W0.heap.size) (by omega)) (o17.rebase (B' := W0.heap.size) (by omega)) (ho.more (B' := W0.heap.size) (by omega)) (by omega) (by omega) (by omega) (by omega) (by omega) (by omega)
            case rel => exact ⟨_, _, (hr.set0 _).set1 _, (hF.set_ (by show w.heap.size + 1 < W0.heap.size; omega) _).set_ (by show w.heap.size + 1 < W0.heap.size; omega) _, (by repeat (first | exact .refl _ _ | apply bwD | apply bwA | (refine bwS ?_ (by first | omega | simp <;> omega) _) | refine bwC ?_ (by assumption)))⟩
          · skip
            refine norm_K fun K hK => ?_
            change wpList _ _ _ [_] _ _
            go_wp2_with fail
            refine (stimes_c hd hx0 hx1 h16.el ex1 ec2).mono ?_; rintro e w46 ⟨v_, rfl, ⟨g17, c17, rfl, o17⟩, hb46⟩
            have hx0 := hx0.below hb46; have hx1 := hx1.below hb46; have hx2 := hx2.below hb46; have d0 := kept hb46 d0; have d1 := kept hb46 d1; have hr := hr.below hb46; have o8 := o8.below hb46; have o11 := o11.below hb46; have h16 := h16.below hb46
            have sz46 : w45.heap.size ≤ w46.heap.size := hb46.size
            have lt17 := o17.lt
            go_wp2_with fail
            first | (refine hK _ _ ⟨(by repeat (first | exact .refl _ _ | apply bwD | apply bwA | (refine bwS ?_ (by first | omega | simp <;> omega) _) | refine bwC ?_ (by assumption))), ?_⟩; clear hK K) | refine ⟨(by repeat (first | exact .refl _ _ | apply bwD | apply bwA | (refine bwS ?_ (by first | omega | simp <;> omega) _) | refine bwC ?_ (by assumption))), ?_⟩
            refine ⟨?_, ?_⟩
            · skip
              refine norm_K fun K hK => ?_
              change wpList _ _ _ [_] _ _
              go_wp2_with fail
              have hb47 : Below w46.heap.size w46 (w46.alloc (.cells #[.int .i64 m1, .int .i64 m2, .int .i64 1] 2)) := (by repeat (first | exact .refl _ _ | apply bwD | apply bwA | (refine bwS ?_ (by first | omega | simp <;> omega) _) | refine bwC ?_ (by assumption)))
              have hx0 := hx0.below hb47; have hx1 := hx1.below hb47; have hx2 := hx2.below hb47; have d0 := kept hb47 d0; have d1 := kept hb47 d1; have hr := hr.below hb47; have o8 := o8.below hb47; have o11 := o11.below hb47; have h16 := h16.below hb47; have o17 := o17.below hb47
              have ol : OwnI (w46.alloc (.cells #[.int .i64 m1, .int .i64 m2, .int .i64 1] 2)) w46.heap.size w46.heap.size 3 3 [m1, m2, 1] := OwnI.lit (Nat.le_refl _) [m1, m2, 1] (by simp); have ltl := ol.lt
              have sz47 : w46.heap.size + 1 = (w46.alloc (.cells #[.int .i64 m1, .int .i64 m2, .int .i64 1] 2)).heap.size := by simp
              obtain ⟨w47, hw_⟩ : ∃ x, x = (w46.alloc (.cells #[.int .i64 m1, .int .i64 m2, .int .i64 1] 2)) := ⟨_, rfl⟩
              rw [← hw_] at hb47 sz47 hx0 hx1 hx2 d0 d1 hr o8 o11 h16 o17 ol ⊢; clear hw_
              go_wp2_with fail
              first | (refine hK _ _ ⟨(by repeat (first | exact .refl _ _ | apply bwD | apply bwA | (refine bwS ?_ (by first | omega | simp <;> omega) _) | refine bwC ?_ (by assumption))), ?_⟩; clear hK K) | refine ⟨(by repeat (first | exact .refl _ _ | apply bwD | apply bwA | (refine bwS ?_ (by first | omega | simp <;> omega) _) | refine bwC ?_ (by assumption))), ?_⟩
              refine norm_K fun K hK => ?_
              change wpList _ _ _ [_, _, _] _ _
              have hb48 : Below w47.heap.size w47 (w47.alloc (.cells #[.slice (some ⟨g8, 0, none⟩) xs2.length c8, .slice (some ⟨g11, 0, none⟩) (conjL p0 xs1).length c11, .slice (some ⟨g17, 0, none⟩) (mulL p0 st0 xs1 (conjL p0 xs2)).length c17] 24)) := (by repeat (first | exact .refl _ _ | apply bwD | apply bwA | (refine bwS ?_ (by first | omega | simp <;> omega) _) | refine bwC ?_ (by assumption)))
              have hx0 := hx0.below hb48; have hx1 := hx1.below hb48; have hx2 := hx2.below hb48; have d0 := kept hb48 d0; have d1 := kept hb48 d1; have hr := hr.below hb48; have o8 := o8.below hb48; have o11 := o11.below hb48; have h16 := h16.below hb48; have o17 := o17.below hb48; have ol := ol.below hb48
              have ho : OwV (w47.alloc (.cells #[.slice (some ⟨g8, 0, none⟩) xs2.length c8, .slice (some ⟨g11, 0, none⟩) (conjL p0 xs1).length c11, .slice (some ⟨g17, 0, none⟩) (mulL p0 st0 xs1 (conjL p0 xs2)).length c17] 24)) w47.heap.size (.slice (some ⟨w47.heap.size, 0, none⟩) 3 3) _ := OwV.lit3 w47 _ _ _
              have sz48 : w47.heap.size + 1 = (w47.alloc (.cells #[.slice (some ⟨g8, 0, none⟩) xs2.length c8, .slice (some ⟨g11, 0, none⟩) (conjL p0 xs1).length c11, .slice (some ⟨g17, 0, none⟩) (mulL p0 st0 xs1 (conjL p0 xs2)).length c17] 24)).heap.size := by simp
              have rc0 := hr.c0; have rc1 := hr.c1; have rf0 := hr.f0; have rf1 := hr.f1
              go_wp2_with fail
              first | (refine hK _ _ ⟨rfl, ?_⟩; clear hK K) | refine ⟨rfl, ?_⟩
              go_wp2_with fail
              go_meet
              have hF := frh3 (ol.rebase (B' := W0.heap.size) (by omega)) (o8.rebase (B' := W0.heap.size) (by omega)) (o11.rebase (B' := W0.heap.size) (by omega)) (o17.rebase (B' := W0.heap.size) (by omega)) (ho.more (B' := W0.heap.size) (by omega)) (by omega) (by omega) (by omega) (by omega) (by omega) (by omega)
              case rel => exact ⟨_, _, (hr.set0 _).set1 _, (hF.set_ (by show w.heap.size + 1 < W0.heap.size; omega) _).set_ (by show w.heap.size + 1 < W0.heap.size; omega) _, (by repeat (first | exact .refl _ _ | apply bwD | apply bwA | (refine bwS ?_ (by first | omega | simp <;> omega) _) | refine bwC ?_ (by assumption)))⟩
            · skip
              refine norm_K fun K hK => ?_
              change wpList _ _ _ [_] _ _
              go_wp2_with fail
              have hb47 : Below w46.heap.size w46 (w46.alloc (.cells #[.slice (some ⟨g8, 0, none⟩) xs2.length c8, .slice (some ⟨g11, 0, none⟩) (conjL p0 xs1).length c11, .slice (some ⟨g17, 0, none⟩) (mulL p0 st0 xs1 (conjL p0 xs2)).length c17] 24)) := (by repeat (first | exact .refl _ _ | apply bwD | apply bwA | (refine bwS ?_ (by first | omega | simp <;> omega) _) | refine bwC ?_ (by assumption)))
              have hx0 := hx0.below hb47; have hx1 := hx1.below hb47; have hx2 := hx2.below hb47; have d0 := kept hb47 d0; have d1 := kept hb47 d1; have hr := hr.below hb47; have o8 := o8.below hb47; have o11 := o11.below hb47; have h16 := h16.below hb47; have o17 := o17.below hb47
              have ho : OwV (w46.alloc (.cells #[.slice (some ⟨g8, 0, none⟩) xs2.length c8, .slice (some ⟨g11, 0, none⟩) (conjL p0 xs1).length c11, .slice (some ⟨g17, 0, none⟩) (mulL p0 st0 xs1 (conjL p0 xs2)).length c17] 24)) w46.heap.size (.slice (some ⟨w46.heap.size, 0, none⟩) 3 3) _ := OwV.lit3 w46 _ _ _
              have sz47 : w46.heap.size + 1 = (w46.alloc (.cells #[.slice (some ⟨g8, 0, none⟩) xs2.length c8, .slice (some ⟨g11, 0, none⟩) (conjL p0 xs1).length c11, .slice (some ⟨g17, 0, none⟩) (mulL p0 st0 xs1 (conjL p0 xs2)).length c17] 24)).heap.size := by simp
              obtain ⟨w47, hw_⟩ : ∃ x, x = (w46.alloc (.cells #[.slice (some ⟨g8, 0, none⟩) xs2.length c8, .slice (some ⟨g11, 0, none⟩) (conjL p0 xs1).length c11, .slice (some ⟨g17, 0, none⟩) (mulL p0 st0 xs1 (conjL p0 xs2)).length c17] 24)) := ⟨_, rfl⟩
              rw [← hw_] at hb47 sz47 hx0 hx1 hx2 d0 d1 hr o8 o11 h16 o17 ho ⊢; clear hw_
              go_wp2_with fail
              first | (refine hK _ _ ⟨(by repeat (first | exact .refl _ _ | apply bwD | apply bwA | (refine bwS ?_ (by first | omega | simp <;> omega) _) | refine bwC ?_ (by assumption))), ?_⟩; clear hK K) | refine ⟨(by repeat (first | exact .refl _ _ | apply bwD | apply bwA | (refine bwS ?_ (by first | omega | simp <;> omega) _) | refine bwC ?_ (by assumption))), ?_⟩
              refine norm_K fun K hK => ?_
              change wpList _ _ _ [_] _ _
              go_wp2_with fail
              have hb48 : Below w47.heap.size w47 (w47.alloc (.cells #[.int .i64 m1, .int .i64 m2, .int .i64 1] 2)) := (by repeat (first | exact .refl _ _ | apply bwD | apply bwA | (refine bwS ?_ (by first | omega | simp <;> omega) _) | refine bwC ?_ (by assumption)))
              have hx0 := hx0.below hb48; have hx1 := hx1.below hb48; have hx2 := hx2.below hb48; have d0 := kept hb48 d0; have d1 := kept hb48 d1; have hr := hr.below hb48; have o8 := o8.below hb48; have o11 := o11.below hb48; have h16 := h16.below hb48; have o17 := o17.below hb48; have ho := ho.below hb48
              have ol : OwnI (w47.alloc (.cells #[.int .i64 m1, .int .i64 m2, .int .i64 1] 2)) w47.heap.size w47.heap.size 3 3 [m1, m2, 1] := OwnI.lit (Nat.le_refl _) [m1, m2, 1] (by simp); have ltl := ol.lt
              have sz48 : w47.heap.size + 1 = (w47.alloc (.cells #[.int .i64 m1, .int .i64 m2, .int .i64 1] 2)).heap.size := by simp
              obtain ⟨w48, hw_⟩ : ∃ x, x = (w47.alloc (.cells #[.int .i64 m1, .int .i64 m2, .int .i64 1] 2)) := ⟨_, rfl⟩
              rw [← hw_] at hb48 sz48 hx0 hx1 hx2 d0 d1 hr o8 o11 h16 o17 ho ol ⊢; clear hw_
              go_wp2_with fail
              first | (refine hK _ _ ⟨(by repeat (first | exact .refl _ _ | apply bwD | apply bwA | (refine bwS ?_ (by first | omega | simp <;> omega) _) | refine bwC ?_ (by assumption))), ?_⟩; clear hK K) | refine ⟨(by repeat (first | exact .refl _ _ | apply bwD | apply bwA | (refine bwS ?_ (by first | omega | simp <;> omega) _) | refine bwC ?_ (by assumption))), ?_⟩
              refine norm_K fun K hK => ?_
              change wpList _ _ _ [_, _] _ _
              have rc0 := hr.c0; have rc1 := hr.c1; have rf0 := hr.f0; have rf1 := hr.f1
              go_wp2_with fail
              first | (refine hK _ _ ⟨rfl, ?_⟩; clear hK K) | refine ⟨rfl, ?_⟩
              go_wp2_with fail
              go_meet
              have hF := frh3 (ol.rebase (B' := W0.heap.size) (by omega)) (o8.rebase (B' := W0.heap.size) (by omega)) (o11.rebase (B' := W0.heap.size) (by omega)) (o17.rebase (B' := W0.heap.size) (by omega)) (ho.more (B' := W0.heap.size) (by omega)) (by omega) (by omega) (by omega) (by omega) (by omega) (by omega)
              case rel => exact ⟨_, _, (hr.set0 _).set1 _, (hF.set_ (by show w.heap.size + 1 < W0.heap.size; omega) _).set_ (by show w.heap.size + 1 < W0.heap.size; omega) _, (by repeat (first | exact .refl _ _ | apply bwD | apply bwA | (refine bwS ?_ (by first | omega | simp <;> omega) _) | refine bwC ?_ (by assumption)))⟩
  case' rest => skip
  obtain ⟨d_, u_, hrr, hF, hbx⟩ := hcut
  obtain ⟨_, _, us, e_, ⟨gd, cd, rfl, _⟩, hu, _⟩ := id hF; cases e_
  obtain ⟨gu, cu, rfl, _⟩ := id hu
  have hul : us.length = 3 := by obtain ⟨_, _, _, _, h, _⟩ := hu; exact h
  have HU := Lib.hid hul; clear hul
  have rc0 := hrr.c0; have rc1 := hrr.c1
  go_wp2_with fail
  refine bodyPost_ret (v := .agg #[.slice (some ⟨gd, 0, none⟩) 3 cd, .slice (some ⟨gu, 0, none⟩) us.length cu]) (by simp [results, Tryz.results38, go_sem, rc0, rc1, HU.out]) rfl ⟨_, rfl, hF.more (by omega), hbx⟩
def RPointAt1 (p0 : Int) (st0 : List Int) (xs1 : List Int) (xs2 : List Int) : Int := chk3 p0 st0 [xs1, xs2]
def RPointAt0 (p0 : Int) (st0 : List Int) (xs1 : List Int) (xs2 : List Int) : Her := if RPointAt1 p0 st0 xs1 xs2 = 0 then pointH p0 st0 xs1 xs2 else ⟨[], []⟩
set_option maxHeartbeats 4000000 in
set_option maxRecDepth 100000 in
theorem iPointAt_c {p0 : Int} {x0 : Value} {st0 : List Int} {x1 : Value} {xs1 : List Int} {x2 : Value} {xs2 : List Int} {w : World} (hx0 : El w x0 st0) (hm0 : st0.length ≤ 1048576) (hx1 : El w x1 xs1) (hm1 : xs1.length ≤ 1048576) (hx2 : El w x2 xs2) (hm2 : xs2.length ≤ 1048576) :
    Calls Tryz.prog 7 #[.agg #[.int .i64 p0, x0], x1, x2] w fun e w' => ∃ v0, e = .returned (.tuple #[v0, .int .i64 (RPointAt1 p0 st0 xs1 xs2)]) ∧ OwH w' w.heap.size v0 (RPointAt0 p0 st0 xs1 xs2) ∧ Below w.heap.size w w' := by
  obtain ⟨a0, c0, rfl, _⟩ := id hx0.op; obtain ⟨a1, k1, rfl, _⟩ := id hx1.op; obtain ⟨a2, k2, rfl, _⟩ := id hx2.op
  obtain ⟨W, hW⟩ : ∃ W, W = (((w.alloc (.cells #[.int .i64 p0, .slice a0 st0.length c0] 26)).alloc (.cells #[.slice none 0 0, .slice none 0 0] 31)).alloc (.cells #[.slice a1 xs1.length k1, .slice a2 xs2.length k2] 24)) := ⟨_, rfl⟩
  have hbW : Below w.heap.size w W := by rw [hW]; exact (by repeat (first | exact .refl _ _ | apply bwD | apply bwA | (refine bwS ?_ (by first | omega | simp <;> omega) _) | refine bwC ?_ (by assumption)))
  have hx0 := hx0.below hbW; have hx1 := hx1.below hbW; have hx2 := hx2.below hbW
  have d00 : W.cell? ⟨w.heap.size, 0, none⟩ = some (.int .i64 p0) := by rw [hW]; simp [go_sem]
  have d01 : W.cell? ⟨w.heap.size, 1, none⟩ = some (.slice a0 st0.length c0) := by rw [hW]; simp [go_sem]
  have hr : Bx W (w.heap.size + 1) (.slice none 0 0) (.slice none 0 0) := by rw [hW]; exact Bx.below (by unfold Bx; rw [show w.heap.size + 1 = (w.alloc (.cells #[.int .i64 p0, .slice a0 st0.length c0] 26)).heap.size by simp]; exact heap_alloc_new _ _) (by repeat (first | exact .refl _ _ | apply bwD | apply bwA | (refine bwS ?_ (by first | omega | simp <;> omega) _) | refine bwC ?_ (by assumption)))
  have hWs : W.heap.size = w.heap.size + 1 + 1 + 1 := by rw [hW]; simp
  have gl : Re W (.slice (some ⟨w.heap.size + 1 + 1, 0, none⟩) 2 2) [xs1, xs2] := Re.two hx1 (by rw [hW]; simp [go_sem]) hx2 (by rw [hW]; simp [go_sem]) (by decide) (by decide)
  have hcon := chk3_c (p := p0) hx0 gl hm0 (by simp) (by intro xs hx; simp at hx; rcases hx with rfl | rfl <;> assumption)
  have HWs := Lib.hid hWs; clear hWs
  rw [hW] at hcon
  by_cases h0 : chk3 p0 st0 [xs1, xs2] = 0
  · rw [h0] at hcon
    obtain ⟨hd, hall⟩ := chk3_pos h0
    have ex1 := hall xs1 (by simp); have ex2 := hall xs2 (by simp); clear hall
    have e1 : RPointAt1 p0 st0 xs1 xs2 = 0 := h0
    rw [show RPointAt0 p0 st0 xs1 xs2 = pointH p0 st0 xs1 xs2 from if_pos e1, e1]; clear e1
    have hp1 := hd.hp.lo; have hp2 := hd.hp.hi; have hsz := sz_le hd
    have ec2 := ex2.conj (by omega)
    have L1 := Lib.hid ex1.1; have L2 := Lib.hid ex2.1; have fx1 := ex1.2; have fx2 := ex2.2
    obtain ⟨m1, hm1_⟩ : ∃ m, m = normL p0 st0 xs1 := ⟨_, rfl⟩
    obtain ⟨m2, hm2_⟩ : ∃ m, m = normL p0 st0 xs2 := ⟨_, rfl⟩
    unfold pointH
    rw [← hm1_, ← hm2_]
    have HM1 := Lib.hid hm1_; have HM2 := Lib.hid hm2_; clear hm1_ hm2_
    go_enter Tryz.func7, Tryz.ntmps7
    go_wp2_with fail
    refine hcon.mono ?_; rintro e w1 ⟨rfl, hb1⟩
    rw [← hW] at hb1
    clear hW hcon
    have hx0 := hx0.below hb1; have hx1 := hx1.below hb1; have hx2 := hx2.below hb1; have d00 := kept hb1 d00; have d01 := kept hb1 d01; have hr := hr.below hb1
    have hz1_ : w.heap.size + 1 + 1 + 1 ≤ w1.heap.size := by have := hb1.size; have := HWs.out; omega
    go_wp2_with fail
    refine (dfield_c).mono ?_; rintro e w22 ⟨rfl, hb22⟩
    have hx0 := hx0.below hb22; have hx1 := hx1.below hb22; have hx2 := hx2.below hb22; have d00 := kept hb22 d00; have d01 := kept hb22 d01; have hr := hr.below hb22
    have hz2_ : w1.heap.size ≤ (w22).heap.size := (below_le (by repeat (first | exact .refl _ _ | apply bwD | apply bwA | (refine bwS ?_ (by first | omega | simp <;> omega) _) | refine bwC ?_ (by assumption))))
    go_upto_region 5 with fail
    go_cut [7] (fun s7 wx => ∃ d u, s7 = .int .i64 0 ∧ Bx wx (w.heap.size + 1) d u ∧ FrH wx (w22).heap.size (.agg #[d, u]) ⟨[m1, m2, 1], [xs2, conjL p0 xs1, mulL p0 st0 xs1 (conjL p0 xs2)]⟩ ∧ Below w.heap.size w wx)
    case first =>
      refine region_tq [(0, 1), (1, 0), (3, 1), (4, 0), (7, 0), (9, 0), (10, 0), (12, 1), (13, 0), (14, 0), (15, 0)] (.one 2 5 (.one 5 5 (.two 6 5 (.lin [(false, [(8, 5)]), (false, [(11, 5)]), (false, [(16, 5)]), (false, [(17, 4), (18, 4), (19, 0), (20, 4), (21, 0)])]) 8 5 (.two 6 5 (.lin [(false, [(11, 5)]), (false, [(16, 5)]), (false, [(17, 4), (18, 4), (19, 0), (20, 4), (21, 0)])]) 11 5 (.two 6 5 (.lin [(false, [(16, 5)]), (false, [(17, 4), (18, 4), (19, 0), (20, 4), (21, 0)])]) 16 5 (.two 6 5 (.lin [(false, [(17, 4), (18, 4), (19, 0), (20, 4), (21, 0)])]) 17 5 (.two 6 5 (.lin [(false, [(18, 4), (19, 0), (20, 4), (21, 0)])]) 18 5 (.lin [(false, [(6, 5)]), (false, [(19, 0), (20, 4), (21, 0)])])))))))) (by kernel_rfl) ?_
      refine norm_K fun K hK => ?_
      change wpList _ _ _ [_, _, _, _, _, _, _, _, _, _, _] _ _
      go_wp2_with fail
      have hbq : Below w22.heap.size w22 w22.drew := (by repeat (first | exact .refl _ _ | apply bwD | apply bwA | (refine bwS ?_ (by first | omega | simp <;> omega) _) | refine bwC ?_ (by assumption)))
      have hx0 := hx0.below hbq; have hx1 := hx1.below hbq; have hx2 := hx2.below hbq; have d00 := kept hbq d00; have d01 := kept hbq d01; have hr := hr.below hbq
      have szq : w22.heap.size = w22.drew.heap.size := rfl
      generalize w22.drew = wq at *
      refine hK _ _ ?_; clear hK K
      refine norm_K fun K hK => ?_
      change wpList _ _ _ [_] _ _
      go_wp2_with fail
      refine (norm_c hd hx0 hx1 ex1).mono ?_; rintro e w41 ⟨rfl, hb41⟩
      have hx0 := hx0.below hb41; have hx1 := hx1.below hb41; have hx2 := hx2.below hb41; have d00 := kept hb41 d00; have d01 := kept hb41 d01; have hr := hr.below hb41
      have sz41 : wq.heap.size ≤ w41.heap.size := hb41.size
      rw [← HM1.out]
      go_wp2_with fail
      first | (refine hK _ _ ⟨(by repeat (first | exact .refl _ _ | apply bwD | apply bwA | (refine bwS ?_ (by first | omega | simp <;> omega) _) | refine bwC ?_ (by assumption))), ?_⟩; clear hK K) | refine ⟨(by repeat (first | exact .refl _ _ | apply bwD | apply bwA | (refine bwS ?_ (by first | omega | simp <;> omega) _) | refine bwC ?_ (by assumption))), ?_⟩
      refine norm_K fun K hK => ?_
      change wpList _ _ _ [_] _ _
      go_wp2_with fail
      refine (norm_c hd hx0 hx2 ex2).mono ?_; rintro e w42 ⟨rfl, hb42⟩
      have hx0 := hx0.below hb42; have hx1 := hx1.below hb42; have hx2 := hx2.below hb42; have d00 := kept hb42 d00; have d01 := kept hb42 d01; have hr := hr.below hb42
      have sz42 : w41.heap.size ≤ w42.heap.size := hb42.size
      rw [← HM2.out]
      go_wp2_with fail
      first | (refine hK _ _ ⟨(by repeat (first | exact .refl _ _ | apply bwD | apply bwA | (refine bwS ?_ (by first | omega | simp <;> omega) _) | refine bwC ?_ (by assumption))), ?_⟩; clear hK K) | refine ⟨(by repeat (first | exact .refl _ _ | apply bwD | apply bwA | (refine bwS ?_ (by first | omega | simp <;> omega) _) | refine bwC ?_ (by assumption))), ?_⟩
      refine ⟨?_, ?_⟩
      · skip
        refine norm_K fun K hK => ?_
        change wpList _ _ _ [_] _ _
        go_wp2_with fail
        have hb43 : Below w42.heap.size w42 (w42.alloc (.cells #[.int .i64 m1, .int .i64 m2, .int .i64 1] 2)) := (by repeat (first | exact .refl _ _ | apply bwD | apply bwA | (refine bwS ?_ (by first | omega | simp <;> omega) _) | refine bwC ?_ (by assumption)))
        have hx0 := hx0.below hb43; have hx1 := hx1.below hb43; have hx2 := hx2.below hb43; have d00 := kept hb43 d00; have d01 := kept hb43 d01; have hr := hr.below hb43
        have ol : OwnI (w42.alloc (.cells #[.int .i64 m1, .int .i64 m2, .int .i64 1] 2)) w42.heap.size w42.heap.size 3 3 [m1, m2, 1] := OwnI.lit (Nat.le_refl _) [m1, m2, 1] (by simp); have ltl := ol.lt
        have sz43 : w42.heap.size + 1 = (w42.alloc (.cells #[.int .i64 m1, .int .i64 m2, .int .i64 1] 2)).heap.size := by simp
        obtain ⟨w43, hw_⟩ : ∃ x, x = (w42.alloc (.cells #[.int .i64 m1, .int .i64 m2, .int .i64 1] 2)) := ⟨_, rfl⟩
        rw [← hw_] at hb43 sz43 hx0 hx1 hx2 d00 d01 hr ol ⊢; clear hw_
        go_wp2_with fail
        first | (refine hK _ _ ⟨(by repeat (first | exact .refl _ _ | apply bwD | apply bwA | (refine bwS ?_ (by first | omega | simp <;> omega) _) | refine bwC ?_ (by assumption))), ?_⟩; clear hK K) | refine ⟨(by repeat (first | exact .refl _ _ | apply bwD | apply bwA | (refine bwS ?_ (by first | omega | simp <;> omega) _) | refine bwC ?_ (by assumption))), ?_⟩
        refine norm_K fun K hK => ?_
        change wpList _ _ _ [_] _ _
        go_wp2_with fail
        refine (clone_c hx2.sl (by rw [L2.out]; omega) (by rw [L2.out]; omega)).mono ?_; rintro e w44 ⟨v_, rfl, ⟨g8, c8, rfl, o8⟩, hb44⟩
        have hx0 := hx0.below hb44; have hx1 := hx1.below hb44; have hx2 := hx2.below hb44; have d00 := kept hb44 d00; have d01 := kept hb44 d01; have hr := hr.below hb44; have ol := ol.below hb44
        have sz44 : w43.heap.size ≤ w44.heap.size := hb44.size
        have lt8 := o8.lt
        go_wp2_with fail
        first | (refine hK _ _ ⟨(by repeat (first | exact .refl _ _ | apply bwD | apply bwA | (refine bwS ?_ (by first | omega | simp <;> omega) _) | refine bwC ?_ (by assumption))), ?_⟩; clear hK K) | refine ⟨(by repeat (first | exact .refl _ _ | apply bwD | apply bwA | (refine bwS ?_ (by first | omega | simp <;> omega) _) | refine bwC ?_ (by assumption))), ?_⟩
        refine norm_K fun K hK => ?_
        change wpList _ _ _ [_] _ _
        go_wp2_with fail
        refine (conj_c (by omega) (by omega) hx1 (by rw [L1.out]; omega) fx1 (by rw [L1.out]; omega)).mono ?_; rintro e w45 ⟨v_, rfl, ⟨g11, c11, rfl, o11⟩, hb45⟩
        have hx0 := hx0.below hb45; have hx1 := hx1.below hb45; have hx2 := hx2.below hb45; have d00 := kept hb45 d00; have d01 := kept hb45 d01; have hr := hr.below hb45; have ol := ol.below hb45; have o8 := o8.below hb45
        have sz45 : w44.heap.size ≤ w45.heap.size := hb45.size
        have lt11 := o11.lt
        go_wp2_with fail
        first | (refine hK _ _ ⟨(by repeat (first | exact .refl _ _ | apply bwD | apply bwA | (refine bwS ?_ (by first | omega | simp <;> omega) _) | refine bwC ?_ (by assumption))), ?_⟩; clear hK K) | refine ⟨(by repeat (first | exact .refl _ _ | apply bwD | apply bwA | (refine bwS ?_ (by first | omega | simp <;> omega) _) | refine bwC ?_ (by assumption))), ?_⟩
        refine norm_K fun K hK => ?_
        change wpList _ _ _ [_] _ _
        go_wp2_with fail
        refine (conj_c (by omega) (by omega) hx2 (by rw [L2.out]; omega) fx2 (by rw [L2.out]; omega)).mono ?_; rintro e w46 ⟨v_, rfl, h16, hb46⟩
        have hx0 := hx0.below hb46; have hx1 := hx1.below hb46; have hx2 := hx2.below hb46; have d00 := kept hb46 d00; have d01 := kept hb46 d01; have hr := hr.below hb46; have ol := ol.below hb46; have o8 := o8.below hb46; have o11 := o11.below hb46
        have sz46 : w45.heap.size ≤ w46.heap.size := hb46.size
        go_wp2_with fail
        first | (refine hK _ _ ⟨(by repeat (first | exact .refl _ _ | apply bwD | apply bwA | (refine bwS ?_ (by first | omega | simp <;> omega) _) | refine bwC ?_ (by assumption))), ?_⟩; clear hK K) | refine ⟨(by repeat (first | exact .refl _ _ | apply bwD | apply bwA | (refine bwS ?_ (by first | omega | simp <;> omega) _) | refine bwC ?_ (by assumption))), ?_⟩
        refine norm_K fun K hK => ?_
        change wpList _ _ _ [_, _, _, _, _] _ _
        go_wp2_with fail
        refine (times_c hd hx0 hx1 h16.el ex1 ec2).mono ?_; rintro e w47 ⟨v_, rfl, ⟨g17, c17, rfl, o17⟩, hb47⟩
        have hx0 := hx0.below hb47; have hx1 := hx1.below hb47; have hx2 := hx2.below hb47; have d00 := kept hb47 d00; have d01 := kept hb47 d01; have hr := hr.below hb47; have ol := ol.below hb47; have o8 := o8.below hb47; have o11 := o11.below hb47; have h16 := h16.below hb47
        have sz47 : w46.heap.size ≤ w47.heap.size := hb47.size
        have lt17 := o17.lt
        have hb48 : Below w47.heap.size w47 (w47.alloc (.cells #[.slice (some ⟨g8, 0, none⟩) xs2.length c8, .slice (some ⟨g11, 0, none⟩) (conjL p0 xs1).length c11, .slice (some ⟨g17, 0, none⟩) (mulL p0 st0 xs1 (conjL p0 xs2)).length c17] 24)) := (by repeat (first | exact .refl _ _ | apply bwD | apply bwA | (refine bwS ?_ (by first | omega | simp <;> omega) _) | refine bwC ?_ (by assumption)))
        have hx0 := hx0.below hb48; have hx1 := hx1.below hb48; have hx2 := hx2.below hb48; have d00 := kept hb48 d00; have d01 := kept hb48 d01; have hr := hr.below hb48; have ol := ol.below hb48; have o8 := o8.below hb48; have o11 := o11.below hb48; have h16 := h16.below hb48; have o17 := o17.below hb48
        have ho : OwV (w47.alloc (.cells #[.slice (some ⟨g8, 0, none⟩) xs2.length c8, .slice (some ⟨g11, 0, none⟩) (conjL p0 xs1).length c11, .slice (some ⟨g17, 0, none⟩) (mulL p0 st0 xs1 (conjL p0 xs2)).length c17] 24)) w47.heap.size (.slice (some ⟨w47.heap.size, 0, none⟩) 3 3) _ := OwV.lit3 w47 _ _ _
        have sz48 : w47.heap.size + 1 = (w47.alloc (.cells #[.slice (some ⟨g8, 0, none⟩) xs2.length c8, .slice (some ⟨g11, 0, none⟩) (conjL p0 xs1).length c11, .slice (some ⟨g17, 0, none⟩) (mulL p0 st0 xs1 (conjL p0 xs2)).length c17] 24)).heap.size := by simp
        have rc0 := hr.c0; have rc1 := hr.c1; have rf0 := hr.f0; have rf1 := hr.f1
        go_wp2_with fail
        first | (refine hK _ _ ⟨rfl, ?_⟩; clear hK K) | refine ⟨rfl, ?_⟩
        go_wp2_with fail
        go_meet
        have hF := frh3 (ol.rebase (B' := w22.heap.size) (by omega)) (o8.rebase (B' := w22.heap.size) (by omega)) (o11.rebase (B' := w22.heap.size) (by omega)) (o17.rebase (B' := w22.heap.size) (by omega)) (ho.more (B' := w22.heap.size) (by omega)) (by omega) (by omega) (by omega) (by omega) (by omega) (by omega)
        case rel => exact ⟨_, _, rfl, (hr.set0 _).set1 _, (hF.set_ (by show w.heap.size + 1 < w22.heap.size; omega) _).set_ (by show w.heap.size + 1 < w22.heap.size; omega) _, (by repeat (first | exact .refl _ _ | apply bwD | apply bwA | (refine bwS ?_ (by first | omega | simp <;> omega) _) | refine bwC ?_ (by assumption)))⟩
      · skip
        refine norm_K fun K hK => ?_
        change wpList _ _ _ [_] _ _
        go_wp2_with fail
        refine (clone_c hx2.sl (by rw [L2.out]; omega) (by rw [L2.out]; omega)).mono ?_; rintro e w43 ⟨v_, rfl, ⟨g8, c8, rfl, o8⟩, hb43⟩
        have hx0 := hx0.below hb43; have hx1 := hx1.below hb43; have hx2 := hx2.below hb43; have d00 := kept hb43 d00; have d01 := kept hb43 d01; have hr := hr.below hb43
        have sz43 : w42.heap.size ≤ w43.heap.size := hb43.size
        have lt8 := o8.lt
        go_wp2_with fail
        first | (refine hK _ _ ⟨(by repeat (first | exact .refl _ _ | apply bwD | apply bwA | (refine bwS ?_ (by first | omega | simp <;> omega) _) | refine bwC ?_ (by assumption))), ?_⟩; clear hK K) | refine ⟨(by repeat (first | exact .refl _ _ | apply bwD | apply bwA | (refine bwS ?_ (by first | omega | simp <;> omega) _) | refine bwC ?_ (by assumption))), ?_⟩
        refine ⟨?_, ?_⟩
        · skip
          refine norm_K fun K hK => ?_
          change wpList _ _ _ [_] _ _
          go_wp2_with fail
          have hb44 : Below w43.heap.size w43 (w43.alloc (.cells #[.int .i64 m1, .int .i64 m2, .int .i64 1] 2)) := (by repeat (first | exact .refl _ _ | apply bwD | apply bwA | (refine bwS ?_ (by first | omega | simp <;> omega) _) | refine bwC ?_ (by assumption)))
          have hx0 := hx0.below hb44; have hx1 := hx1.below hb44; have hx2 := hx2.below hb44; have d00 := kept hb44 d00; have d01 := kept hb44 d01; have hr := hr.below hb44; have o8 := o8.below hb44
          have ol : OwnI (w43.alloc (.cells #[.int .i64 m1, .int .i64 m2, .int .i64 1] 2)) w43.heap.size w43.heap.size 3 3 [m1, m2, 1] := OwnI.lit (Nat.le_refl _) [m1, m2, 1] (by simp); have ltl := ol.lt
          have sz44 : w43.heap.size + 1 = (w43.alloc (.cells #[.int .i64 m1, .int .i64 m2, .int .i64 1] 2)).heap.size := by simp
          obtain ⟨w44, hw_⟩ : ∃ x, x = (w43.alloc (.cells #[.int .i64 m1, .int .i64 m2, .int .i64 1] 2)) := ⟨_, rfl⟩
          rw [← hw_] at hb44 sz44 hx0 hx1 hx2 d00 d01 hr o8 ol ⊢; clear hw_
          go_wp2_with fail
          first | (refine hK _ _ ⟨(by repeat (first | exact .refl _ _ | apply bwD | apply bwA | (refine bwS ?_ (by first | omega | simp <;> omega) _) | refine bwC ?_ (by assumption))), ?_⟩; clear hK K) | refine ⟨(by repeat (first | exact .refl _ _ | apply bwD | apply bwA | (refine bwS ?_ (by first | omega | simp <;> omega) _) | refine bwC ?_ (by assumption))), ?_⟩
          refine norm_K fun K hK => ?_
          change wpList _ _ _ [_] _ _
          go_wp2_with fail
          refine (conj_c (by omega) (by omega) hx1 (by rw [L1.out]; omega) fx1 (by rw [L1.out]; omega)).mono ?_; rintro e w45 ⟨v_, rfl, ⟨g11, c11, rfl, o11⟩, hb45⟩
          have hx0 := hx0.below hb45; have hx1 := hx1.below hb45; have hx2 := hx2.below hb45; have d00 := kept hb45 d00; have d01 := kept hb45 d01; have hr := hr.below hb45; have o8 := o8.below hb45; have ol := ol.below hb45
          have sz45 : w44.heap.size ≤ w45.heap.size := hb45.size
          have lt11 := o11.lt
          go_wp2_with fail
          first | (refine hK _ _ ⟨(by repeat (first | exact .refl _ _ | apply bwD | apply bwA | (refine bwS ?_ (by first | omega | simp <;> omega) _) | refine bwC ?_ (by assumption))), ?_⟩; clear hK K) | refine ⟨(by repeat (first | exact .refl _ _ | apply bwD | apply bwA | (refine bwS ?_ (by first | omega | simp <;> omega) _) | refine bwC ?_ (by assumption))), ?_⟩
          refine norm_K fun K hK => ?_
          change wpList _ _ _ [_] _ _
          go_wp2_with fail
          refine (conj_c (by omega) (by omega) hx2 (by rw [L2.out]; omega) fx2 (by rw [L2.out]; omega)).mono ?_; rintro e w46 ⟨v_, rfl, h16, hb46⟩
          have hx0 := hx0.below hb46; have hx1 := hx1.below hb46; have hx2 := hx2.below hb46; have d00 := kept hb46 d00; have d01 := kept hb46 d01; have hr := hr.below hb46; have o8 := o8.below hb46; have ol := ol.below hb46; have o11 := o11.below hb46
          have sz46 : w45.heap.size ≤ w46.heap.size := hb46.size
          go_wp2_with fail
          first | (refine hK _ _ ⟨(by repeat (first | exact .refl _ _ | apply bwD | apply bwA | (refine bwS ?_ (by first | omega | simp <;> omega) _) | refine bwC ?_ (by assumption))), ?_⟩; clear hK K) | refine ⟨(by repeat (first | exact .refl _ _ | apply bwD | apply bwA | (refine bwS ?_ (by first | omega | simp <;> omega) _) | refine bwC ?_ (by assumption))), ?_⟩
          refine norm_K fun K hK => ?_
          change wpList _ _ _ [_, _, _, _, _] _ _
          go_wp2_with fail
          refine (times_c hd hx0 hx1 h16.el ex1 ec2).mono ?_; rintro e w47 ⟨v_, rfl, ⟨g17, c17, rfl, o17⟩, hb47⟩
          have hx0 := hx0.below hb47; have hx1 := hx1.below hb47; have hx2 := hx2.below hb47; have d00 := kept hb47 d00; have d01 := kept hb47 d01; have hr := hr.below hb47; have o8 := o8.below hb47; have ol := ol.below hb47; have o11 := o11.below hb47; have h16 := h16.below hb47
          have sz47 : w46.heap.size ≤ w47.heap.size := hb47.size
          have lt17 := o17.lt
          have hb48 : Below w47.heap.size w47 (w47.alloc (.cells #[.slice (some ⟨g8, 0, none⟩) xs2.length c8, .slice (some ⟨g11, 0, none⟩) (conjL p0 xs1).length c11, .slice (some ⟨g17, 0, none⟩) (mulL p0 st0 xs1 (conjL p0 xs2)).length c17] 24)) := (by repeat (first | exact .refl _ _ | apply bwD | apply bwA | (refine bwS ?_ (by first | omega | simp <;> omega) _) | refine bwC ?_ (by assumption)))
          have hx0 := hx0.below hb48; have hx1 := hx1.below hb48; have hx2 := hx2.below hb48; have d00 := kept hb48 d00; have d01 := kept hb48 d01; have hr := hr.below hb48; have o8 := o8.below hb48; have ol := ol.below hb48; have o11 := o11.below hb48; have h16 := h16.below hb48; have o17 := o17.below hb48
          have ho : OwV (w47.alloc (.cells #[.slice (some ⟨g8, 0, none⟩) xs2.length c8, .slice (some ⟨g11, 0, none⟩) (conjL p0 xs1).length c11, .slice (some ⟨g17, 0, none⟩) (mulL p0 st0 xs1 (conjL p0 xs2)).length c17] 24)) w47.heap.size (.slice (some ⟨w47.heap.size, 0, none⟩) 3 3) _ := OwV.lit3 w47 _ _ _
          have sz48 : w47.heap.size + 1 = (w47.alloc (.cells #[.slice (some ⟨g8, 0, none⟩) xs2.length c8, .slice (some ⟨g11, 0, none⟩) (conjL p0 xs1).length c11, .slice (some ⟨g17, 0, none⟩) (mulL p0 st0 xs1 (conjL p0 xs2)).length c17] 24)).heap.size := by simp
          have rc0 := hr.c0; have rc1 := hr.c1; have rf0 := hr.f0; have rf1 := hr.f1
          go_wp2_with fail
          first | (refine hK _ _ ⟨rfl, ?_⟩; clear hK K) | refine ⟨rfl, ?_⟩
          go_wp2_with fail
          go_meet
          have hF := frh3 (ol.rebase (B' := w22.heap.size) (by omega)) (o8.rebase (B' := w22.heap.size) (by omega)) (o11.rebase (B' := w22.heap.size) (by omega)) (o17.rebase (B' := w22.heap.size) (by omega)) (ho.more (B' := w22.heap.size) (by omega)) (by omega) (by omega) (by omega) (by omega) (by omega) (by omega)
          case rel => exact ⟨_, _, rfl, (hr.set0 _).set1 _, (hF.set_ (by show w.heap.size + 1 < w22.heap.size; omega) _).set_ (by show w.heap.size + 1 < w22.heap.size; omega) _, (by repeat (first | exact .refl _ _ | apply bwD | apply bwA | (refine bwS ?_ (by first | omega | simp <;> omega) _) | refine bwC ?_ (by assumption)))⟩
        · skip
          refine norm_K fun K hK => ?_
          change wpList _ _ _ [_] _ _
          go_wp2_with fail
          refine (conj_c (by omega) (by omega) hx1 (by rw [L1.out]; omega) fx1 (by rw [L1.out]; omega)).mono ?_; rintro e w44 ⟨v_, rfl, ⟨g11, c11, rfl, o11⟩, hb44⟩
          have hx0 := hx0.below hb44; have hx1 := hx1.below hb44; have hx2 := hx2.below hb44; have d00 := kept hb44 d00; have d01 := kept hb44 d01; have hr := hr.below hb44; have o8 := o8.below hb44
          have sz44 : w43.heap.size ≤ w44.heap.size := hb44.size
          have lt11 := o11.lt
          go_wp2_with fail
          first | (refine hK _ _ ⟨(by repeat (first | exact .refl _ _ | apply bwD | apply bwA | (refine bwS ?_ (by first | omega | simp <;> omega) _) | refine bwC ?_ (by assumption))), ?_⟩; clear hK K) | refine ⟨(by repeat (first | exact .refl _ _ | apply bwD | apply bwA | (refine bwS ?_ (by first | omega | simp <;> omega) _) | refine bwC ?_ (by assumption))), ?_⟩
          refine ⟨?_, ?_⟩
          · skip
            refine norm_K fun K hK => ?_
            change wpList _ _ _ [_] _ _
            go_wp2_with fail
            have hb45 : Below w44.heap.size w44 (w44.alloc (.cells #[.int .i64 m1, .int .i64 m2, .int .i64 1] 2)) := (by repeat (first | exact .refl _ _ | apply bwD | apply bwA | (refine bwS ?_ (by first | omega | simp <;> omega) _) | refine bwC ?_ (by assumption)))
            have hx0 := hx0.below hb45; have hx1 := hx1.below hb45; have hx2 := hx2.below hb45; have d00 := kept hb45 d00; have d01 := kept hb45 d01; have hr := hr.below hb45; have o8 := o8.below hb45; have o11 := o11.below hb45
            have ol : OwnI (w44.alloc (.cells #[.int .i64 m1, .int .i64 m2, .int .i64 1] 2)) w44.heap.size w44.heap.size 3 3 [m1, m2, 1] := OwnI.lit (Nat.le_refl _) [m1, m2, 1] (by simp); have ltl := ol.lt
            have sz45 : w44.heap.size + 1 = (w44.alloc (.cells #[.int .i64 m1, .int .i64 m2, .int .i64 1] 2)).heap.size := by simp
            obtain ⟨w45, hw_⟩ : ∃ x, x = (w44.alloc (.cells #[.int .i64 m1, .int .i64 m2, .int .i64 1] 2)) := ⟨_, rfl⟩
            rw [← hw_] at hb45 sz45 hx0 hx1 hx2 d00 d01 hr o8 o11 ol ⊢; clear hw_
            go_wp2_with fail
            first | (refine hK _ _ ⟨(by repeat (first | exact .refl _ _ | apply bwD | apply bwA | (refine bwS ?_ (by first | omega | simp <;> omega) _) | refine bwC ?_ (by assumption))), ?_⟩; clear hK K) | refine ⟨(by repeat (first | exact .refl _ _ | apply bwD | apply bwA | (refine bwS ?_ (by first | omega | simp <;> omega) _) | refine bwC ?_ (by assumption))), ?_⟩
            refine norm_K fun K hK => ?_
            change wpList _ _ _ [_] _ _
            go_wp2_with fail
            refine (conj_c (by omega) (by omega) hx2 (by rw [L2.out]; omega) fx2 (by rw [L2.out]; omega)).mono ?_; rintro e w46 ⟨v_, rfl, h16, hb46⟩
            have hx0 := hx0.below hb46; have hx1 := hx1.below hb46; have hx2 := hx2.below hb46; have d00 := kept hb46 d00; have d01 := kept hb46 d01; have hr := hr.below hb46; have o8 := o8.below hb46; have o11 := o11.below hb46; have ol := ol.below hb46
            have sz46 : w45.heap.size ≤ w46.heap.size := hb46.size
            go_wp2_with fail
            first | (refine hK _ _ ⟨(by repeat (first | exact .refl _ _ | apply bwD | apply bwA | (refine bwS ?_ (by first | omega | simp <;> omega) _) | refine bwC ?_ (by assumption))), ?_⟩; clear hK K) | refine ⟨(by repeat (first | exact .refl _ _ | apply bwD | apply bwA | (refine bwS ?_ (by first | omega | simp <;> omega) _) | refine bwC ?_ (by assumption))), ?_⟩
            refine norm_K fun K hK => ?_
            change wpList _ _ _ [_, _, _, _, _] _ _
            go_wp2_with fail
            refine (times_c hd hx0 hx1 h16.el ex1 ec2).mono ?_; rintro e w47 ⟨v_, rfl, ⟨g17, c17, rfl, o17⟩, hb47⟩
            have hx0 := hx0.below hb47; have hx1 := hx1.below hb47; have hx2 := hx2.below hb47; have d00 := kept hb47 d00; have d01 := kept hb47 d01; have hr := hr.below hb47; have o8 := o8.below hb47; have o11 := o11.below hb47; have ol := ol.below hb47; have h16 := h16.below hb47
            have sz47 : w46.heap.size ≤ w47.heap.size := hb47.size
            have lt17 := o17.lt
            have hb48 : Below w47.heap.size w47 (w47.alloc (.cells #[.slice (some ⟨g8, 0, none⟩) xs2.length c8, .slice (some ⟨g11, 0, none⟩) (conjL p0 xs1).length c11, .slice (some ⟨g17, 0, none⟩) (mulL p0 st0 xs1 (conjL p0 xs2)).length c17] 24)) := (by repeat (first | exact .refl _ _ | apply bwD | apply bwA | (refine bwS ?_ (by first | omega | simp <;> omega) _) | refine bwC ?_ (by assumption)))
            have hx0 := hx0.below hb48; have hx1 := hx1.below hb48; have hx2 := hx2.below hb48; have d00 := kept hb48 d00; have d01 := kept hb48 d01; have hr := hr.below hb48; have o8 := o8.below hb48; have o11 := o11.below hb48; have ol := ol.below hb48; have h16 := h16.below hb48; have o17 := o17.below hb48
            have ho : OwV (w47.alloc (.cells #[.slice (some ⟨g8, 0, none⟩) xs2.length c8, .slice (some ⟨g11, 0, none⟩) (conjL p0 xs1).length c11, .slice (some ⟨g17, 0, none⟩) (mulL p0 st0 xs1 (conjL p0 xs2)).length c17] 24)) w47.heap.size (.slice (some ⟨w47.heap.size, 0, none⟩) 3 3) _ := OwV.lit3 w47 _ _ _
            have sz48 : w47.heap.size + 1 = (w47.alloc (.cells #[.slice (some ⟨g8, 0, none⟩) xs2.length c8, .slice (some ⟨g11, 0, none⟩) (conjL p0 xs1).length c11, .slice (some ⟨g17, 0, none⟩) (mulL p0 st0 xs1 (conjL p0 xs2)).length c17] 24)).heap.size := by simp
            have rc0 := hr.c0; have rc1 := hr.c1; have rf0 := hr.f0; have rf1 := hr.f1
            go_wp2_with fail
            first | (refine hK _ _ ⟨rfl, ?_⟩; clear hK K) | refine ⟨rfl, ?_⟩
            go_wp2_with fail
            go_meet
            have hF := frh3 (ol.rebase (B' := w22.heap.size) (by omega)) (o8.rebase (B' := w22.heap.size) (by omega)) (o11.rebase (B' := w22.heap.size) (by omega)) (o17.rebase (B' := w22.heap.size) (by omega)) (ho.more (B' := w22.heap.size) (by omega)) (by omega) (by omega) (by omega) (by omega) (by omega) (by omega)
            case rel => exact ⟨_, _, rfl, (hr.set0 _).set1 _, (hF.set_ (by show w.heap.size + 1 < w22.heap.size; omega) _).set_ (by show w.heap.size + 1 < w22.heap.size; omega) _, (by repeat (first | exact .refl _ _ | apply bwD | apply bwA | (refine bwS ?_ (by first | omega | simp <;> omega) _) | refine bwC ?_ (by assumption)))⟩
          · skip
            refine norm_K fun K hK => ?_
            change wpList _ _ _ [_] _ _
            go_wp2_with fail
            refine (conj_c (by omega) (by omega) hx2 (by rw [L2.out]; omega) fx2 (by rw [L2.out]; omega)).mono ?_; rintro e w45 ⟨v_, rfl, h16, hb45⟩
            have hx0 := hx0.below hb45; have hx1 := hx1.below hb45; have hx2 := hx2.below hb45; have d00 := kept hb45 d00; have d01 := kept hb45 d01; have hr := hr.below hb45; have o8 := o8.below hb45; have o11 := o11.below hb45
            have sz45 : w44.heap.size ≤ w45.heap.size := hb45.size
            go_wp2_with fail
            first | (refine hK _ _ ⟨(by repeat (first | exact .refl _ _ | apply bwD | apply bwA | (refine bwS ?_ (by first | omega | simp <;> omega) _) | refine bwC ?_ (by assumption))), ?_⟩; clear hK K) | refine ⟨(by repeat (first | exact .refl _ _ | apply bwD | apply bwA | (refine bwS ?_ (by first | omega | simp <;> omega) _) | refine bwC ?_ (by assumption))), ?_⟩
            refine ⟨?_, ?_⟩
            · skip
              refine norm_K fun K hK => ?_
              change wpList _ _ _ [_] _ _
              go_wp2_with fail
              have hb46 : Below w45.heap.size w45 (w45.alloc (.cells #[.int .i64 m1, .int .i64 m2, .int .i64 1] 2)) := (by repeat (first | exact .refl _ _ | apply bwD | apply bwA | (refine bwS ?_ (by first | omega | simp <;> omega) _) | refine bwC ?_ (by assumption)))
              have hx0 := hx0.below hb46; have hx1 := hx1.below hb46; have hx2 := hx2.below hb46; have d00 := kept hb46 d00; have d01 := kept hb46 d01; have hr := hr.below hb46; have o8 := o8.below hb46; have o11 := o11.below hb46; have h16 := h16.below hb46
              have ol : OwnI (w45.alloc (.cells #[.int .i64 m1, .int .i64 m2, .int .i64 1] 2)) w45.heap.size w45.heap.size 3 3 [m1, m2, 1] := OwnI.lit (Nat.le_refl _) [m1, m2, 1] (by simp); have ltl := ol.lt
              have sz46 : w45.heap.size + 1 = (w45.alloc (.cells #[.int .i64 m1, .int .i64 m2, .int .i64 1] 2)).heap.size := by simp
              obtain ⟨w46, hw_⟩ : ∃ x, x = (w45.alloc (.cells #[.int .i64 m1, .int .i64 m2, .int .i64 1] 2)) := ⟨_, rfl⟩
              rw [← hw_] at hb46 sz46 hx0 hx1 hx2 d00 d01 hr o8 o11 h16 ol ⊢; clear hw_
              go_wp2_with fail
              first | (refine hK _ _ ⟨(by repeat (first | exact .refl _ _ | apply bwD | apply bwA | (refine bwS ?_ (by first | omega | simp <;> omega) _) | refine bwC ?_ (by assumption))), ?_⟩; clear hK K) | refine ⟨(by repeat (first | exact .refl _ _ | apply bwD | apply bwA | (refine bwS ?_ (by first | omega | simp <;> omega) _) | refine bwC ?_ (by assumption))), ?_⟩
              refine norm_K fun K hK => ?_
              change wpList _ _ _ [_, _, _, _, _] _ _
              go_wp2_with fail
              refine (times_c hd hx0 hx1 h16.el ex1 ec2).mono ?_; rintro e w47 ⟨v_, rfl, ⟨g17, c17, rfl, o17⟩, hb47⟩
              have hx0 := hx0.below hb47; have hx1 := hx1.below hb47; have hx2 := hx2.below hb47; have d00 := kept hb47 d00; have d01 := kept hb47 d01; have hr := hr.below hb47; have o8 := o8.below hb47; have o11 := o11.below hb47; have h16 := h16.below hb47; have ol := ol.below hb47
              have sz47 : w46.heap.size ≤ w47.heap.size := hb47.size
              have lt17 := o17.lt
              have hb48 : Below w47.heap.size w47 (w47.alloc (.cells #[.slice (some ⟨g8, 0, none⟩) xs2.length c8, .slice (some ⟨g11, 0, none⟩) (conjL p0 xs1).length c11, .slice (some ⟨g17, 0, none⟩) (mulL p0 st0 xs1 (conjL p0 xs2)).length c17] 24)) := (by repeat (first | exact .refl _ _ | apply bwD | apply bwA | (refine bwS ?_ (by first | omega | simp <;> omega) _) | refine bwC ?_ (by assumption)))
              have hx0 := hx0.below hb48; have hx1 := hx1.below hb48; have hx2 := hx2.below hb48; have d00 := kept hb48 d00; have d01 := kept hb48 d01; have hr := hr.below hb48; have o8 := o8.below hb48; have o11 := o11.below hb48; have h16 := h16.below hb48; have ol := ol.below hb48; have o17 := o17.below hb48
              have ho : OwV (w47.alloc (.cells #[.slice (some ⟨g8, 0, none⟩) xs2.length c8, .slice (some ⟨g11, 0, none⟩) (conjL p0 xs1).length c11, .slice (some ⟨g17, 0, none⟩) (mulL p0 st0 xs1 (conjL p0 xs2)).length c17] 24)) w47.heap.size (.slice (some ⟨w47.heap.size, 0, none⟩) 3 3) _ := OwV.lit3 w47 _ _ _
              have sz48 : w47.heap.size + 1 = (w47.alloc (.cells #[.slice (some ⟨g8, 0, none⟩) xs2.length c8, .slice (some ⟨g11, 0, none⟩) (conjL p0 xs1).length c11, .slice (some ⟨g17, 0, none⟩) (mulL p0 st0 xs1 (conjL p0 xs2)).length c17] 24)).heap.size := by simp
              have rc0 := hr.c0; have rc1 := hr.c1; have rf0 := hr.f0; have rf1 := hr.f1
              go_wp2_with fail
              first | (refine hK _ _ ⟨rfl, ?_⟩; clear hK K) | refine ⟨rfl, ?_⟩
              go_wp2_with fail
              go_meet
              have hF := frh3 (ol.rebase (B' := w22.heap.size) (by omega)) (o8.rebase (B' := w22.heap.size) (by omega)) (o11.rebase (B' := w22.heap.size) (by omega)) (o17.rebase (B' := w22.heap.size) (by omega)) (ho.more (B' := w22.heap.size) (by omega)) (by omega) (by omega) (by omega) (by omega) (by omega) (by omega)
              case rel => exact ⟨_, _, rfl, (hr.set0 _).set1 _, (hF.set_ (by show w.heap.size + 1 < w22.heap.size; omega) _).set_ (by show w.heap.size + 1 < w22.heap.size; omega) _, (by repeat (first | exact .refl _ _ | apply bwD | apply bwA | (refine bwS ?_ (by first | omega | simp <;> omega) _) | refine bwC ?_ (by assumption)))⟩
            · skip
              refine norm_K fun K hK => ?_
              change wpList _ _ _ [_] _ _
              go_wp2_with fail
              refine (times_c hd hx0 hx1 h16.el ex1 ec2).mono ?_; rintro e w46 ⟨v_, rfl, ⟨g17, c17, rfl, o17⟩, hb46⟩
              have hx0 := hx0.below hb46; have hx1 := hx1.below hb46; have hx2 := hx2.below hb46; have d00 := kept hb46 d00; have d01 := kept hb46 d01; have hr := hr.below hb46; have o8 := o8.below hb46; have o11 := o11.below hb46; have h16 := h16.below hb46
              have sz46 : w45.heap.size ≤ w46.heap.size := hb46.size
              have lt17 := o17.lt
              go_wp2_with fail
              first | (refine hK _ _ ⟨(by repeat (first | exact .refl _ _ | apply bwD | apply bwA | (refine bwS ?_ (by first | omega | simp <;> omega) _) | refine bwC ?_ (by assumption))), ?_⟩; clear hK K) | refine ⟨(by repeat (first | exact .refl _ _ | apply bwD | apply bwA | (refine bwS ?_ (by first | omega | simp <;> omega) _) | refine bwC ?_ (by assumption))), ?_⟩
              refine ⟨?_, ?_⟩
              · skip
                refine norm_K fun K hK => ?_
                change wpList _ _ _ [_] _ _
                go_wp2_with fail
                have hb47 : Below w46.heap.size w46 (w46.alloc (.cells #[.int .i64 m1, .int .i64 m2, .int .i64 1] 2)) := (by repeat (first | exact .refl _ _ | apply bwD | apply bwA | (refine bwS ?_ (by first | omega | simp <;> omega) _) | refine bwC ?_ (by assumption)))
                have hx0 := hx0.below hb47; have hx1 := hx1.below hb47; have hx2 := hx2.below hb47; have d00 := kept hb47 d00; have d01 := kept hb47 d01; have hr := hr.below hb47; have o8 := o8.below hb47; have o11 := o11.below hb47; have h16 := h16.below hb47; have o17 := o17.below hb47
                have ol : OwnI (w46.alloc (.cells #[.int .i64 m1, .int .i64 m2, .int .i64 1] 2)) w46.heap.size w46.heap.size 3 3 [m1, m2, 1] := OwnI.lit (Nat.le_refl _) [m1, m2, 1] (by simp); have ltl := ol.lt
                have sz47 : w46.heap.size + 1 = (w46.alloc (.cells #[.int .i64 m1, .int .i64 m2, .int .i64 1] 2)).heap.size := by simp
                obtain ⟨w47, hw_⟩ : ∃ x, x = (w46.alloc (.cells #[.int .i64 m1, .int .i64 m2, .int .i64 1] 2)) := ⟨_, rfl⟩
                rw [← hw_] at hb47 sz47 hx0 hx1 hx2 d00 d01 hr o8 o11 h16 o17 ol ⊢; clear hw_
                go_wp2_with fail
                first | (refine hK _ _ ⟨(by repeat (first | exact .refl _ _ | apply bwD | apply bwA | (refine bwS ?_ (by first | omega | simp <;> omega) _) | refine bwC ?_ (by assumption))), ?_⟩; clear hK K) | refine ⟨(by repeat (first | exact .refl _ _ | apply bwD | apply bwA | (refine bwS ?_ (by first | omega | simp <;> omega) _) | refine bwC ?_ (by assumption))), ?_⟩
                refine norm_K fun K hK => ?_
                change wpList _ _ _ [_, _, _, _] _ _
                have hb48 : Below w47.heap.size w47 (w47.alloc (.cells #[.slice (some ⟨g8, 0, none⟩) xs2.length c8, .slice (some ⟨g11, 0, none⟩) (conjL p0 xs1).length c11, .slice (some ⟨g17, 0, none⟩) (mulL p0 st0 xs1 (conjL p0 xs2)).length c17] 24)) := (by repeat (first | exact .refl _ _ | apply bwD | apply bwA | (refine bwS ?_ (by first | omega | simp <;> omega) _) | refine bwC ?_ (by assumption)))
                have hx0 := hx0.below hb48; have hx1 := hx1.below hb48; have hx2 := hx2.below hb48; have d00 := kept hb48 d00; have d01 := kept hb48 d01; have hr := hr.below hb48; have o8 := o8.below hb48; have o11 := o11.below hb48; have h16 := h16.below hb48; have o17 := o17.below hb48; have ol := ol.below hb48
                have ho : OwV (w47.alloc (.cells #[.slice (some ⟨g8, 0, none⟩) xs2.length c8, .slice (some ⟨g11, 0, none⟩) (conjL p0 xs1).length c11, .slice (some ⟨g17, 0, none⟩) (mulL p0 st0 xs1 (conjL p0 xs2)).length c17] 24)) w47.heap.size (.slice (some ⟨w47.heap.size, 0, none⟩) 3 3) _ := OwV.lit3 w47 _ _ _
                have sz48 : w47.heap.size + 1 = (w47.alloc (.cells #[.slice (some ⟨g8, 0, none⟩) xs2.length c8, .slice (some ⟨g11, 0, none⟩) (conjL p0 xs1).length c11, .slice (some ⟨g17, 0, none⟩) (mulL p0 st0 xs1 (conjL p0 xs2)).length c17] 24)).heap.size := by simp
                have rc0 := hr.c0; have rc1 := hr.c1; have rf0 := hr.f0; have rf1 := hr.f1
                go_wp2_with fail
                first | (refine hK _ _ ⟨rfl, ?_⟩; clear hK K) | refine ⟨rfl, ?_⟩
                go_wp2_with fail
                go_meet
                have hF := frh3 (ol.rebase (B' := w22.heap.size) (by omega)) (o8.rebase (B' := w22.heap.size) (by omega)) (o11.rebase (B' := w22.heap.size) (by omega)) (o17.rebase (B' := w22.heap.size) (by omega)) (ho.more (B' := w22.heap.size) (by omega)) (by omega) (by omega) (by omega) (by omega) (by omega) (by omega)
                case rel => exact ⟨_, _, rfl, (hr.set0 _).set1 _, (hF.set_ (by show w.heap.size + 1 < w22.heap.size; omega) _).set_ (by show w.heap.size + 1 < w22.heap.size; omega) _, (by repeat (first | exact .refl _ _ | apply bwD | apply bwA | (refine bwS ?_ (by first | omega | simp <;> omega) _) | refine bwC ?_ (by assumption)))⟩
              · skip
                refine norm_K fun K hK => ?_
                change wpList _ _ _ [_] _ _
                go_wp2_with fail
                have hb47 : Below w46.heap.size w46 (w46.alloc (.cells #[.slice (some ⟨g8, 0, none⟩) xs2.length c8, .slice (some ⟨g11, 0, none⟩) (conjL p0 xs1).length c11, .slice (some ⟨g17, 0, none⟩) (mulL p0 st0 xs1 (conjL p0 xs2)).length c17] 24)) := (by repeat (first | exact .refl _ _ | apply bwD | apply bwA | (refine bwS ?_ (by first | omega | simp <;> omega) _) | refine bwC ?_ (by assumption)))
                have hx0 := hx0.below hb47; have hx1 := hx1.below hb47; have hx2 := hx2.below hb47; have d00 := kept hb47 d00; have d01 := kept hb47 d01; have hr := hr.below hb47; have o8 := o8.below hb47; have o11 := o11.below hb47; have h16 := h16.below hb47; have o17 := o17.below hb47
                have ho : OwV (w46.alloc (.cells #[.slice (some ⟨g8, 0, none⟩) xs2.length c8, .slice (some ⟨g11, 0, none⟩) (conjL p0 xs1).length c11, .slice (some ⟨g17, 0, none⟩) (mulL p0 st0 xs1 (conjL p0 xs2)).length c17] 24)) w46.heap.size (.slice (some ⟨w46.heap.size, 0, none⟩) 3 3) _ := OwV.lit3 w46 _ _ _
                have sz47 : w46.heap.size + 1 = (w46.alloc (.cells #[.slice (some ⟨g8, 0, none⟩) xs2.length c8, .slice (some ⟨g11, 0, none⟩) (conjL p0 xs1).length c11, .slice (some ⟨g17, 0, none⟩) (mulL p0 st0 xs1 (conjL p0 xs2)).length c17] 24)).heap.size := by simp
                obtain ⟨w47, hw_⟩ : ∃ x, x = (w46.alloc (.cells #[.slice (some ⟨g8, 0, none⟩) xs2.length c8, .slice (some ⟨g11, 0, none⟩) (conjL p0 xs1).length c11, .slice (some ⟨g17, 0, none⟩) (mulL p0 st0 xs1 (conjL p0 xs2)).length c17] 24)) := ⟨_, rfl⟩
                rw [← hw_] at hb47 sz47 hx0 hx1 hx2 d00 d01 hr o8 o11 h16 o17 ho ⊢; clear hw_
                go_wp2_with fail
                first | (refine hK _ _ ⟨(by repeat (first | exact .refl _ _ | apply bwD | apply bwA | (refine bwS ?_ (by first | omega | simp <;> omega) _) | refine bwC ?_ (by assumption))), ?_⟩; clear hK K) | refine ⟨(by repeat (first | exact .refl _ _ | apply bwD | apply bwA | (refine bwS ?_ (by first | omega | simp <;> omega) _) | refine bwC ?_ (by assumption))), ?_⟩
                refine norm_K fun K hK => ?_
                change wpList _ _ _ [_] _ _
                go_wp2_with fail
                have hb48 : Below w47.heap.size w47 (w47.alloc (.cells #[.int .i64 m1, .int .i64 m2, .int .i64 1] 2)) := (by repeat (first | exact .refl _ _ | apply bwD | apply bwA | (refine bwS ?_ (by first | omega | simp <;> omega) _) | refine bwC ?_ (by assumption)))
                have hx0 := hx0.below hb48; have hx1 := hx1.below hb48; have hx2 := hx2.below hb48; have d00 := kept hb48 d00; have d01 := kept hb48 d01; have hr := hr.below hb48; have o8 := o8.below hb48; have o11 := o11.below hb48; have h16 := h16.below hb48; have o17 := o17.below hb48; have ho := ho.below hb48
                have ol : OwnI (w47.alloc (.cells #[.int .i64 m1, .int .i64 m2, .int .i64 1] 2)) w47.heap.size w47.heap.size 3 3 [m1, m2, 1] := OwnI.lit (Nat.le_refl _) [m1, m2, 1] (by simp); have ltl := ol.lt
                have sz48 : w47.heap.size + 1 = (w47.alloc (.cells #[.int .i64 m1, .int .i64 m2, .int .i64 1] 2)).heap.size := by simp
                obtain ⟨w48, hw_⟩ : ∃ x, x = (w47.alloc (.cells #[.int .i64 m1, .int .i64 m2, .int .i64 1] 2)) := ⟨_, rfl⟩
                rw [← hw_] at hb48 sz48 hx0 hx1 hx2 d00 d01 hr o8 o11 h16 o17 ho ol ⊢; clear hw_
                go_wp2_with fail
                first | (refine hK _ _ ⟨(by repeat (first | exact .refl _ _ | apply bwD | apply bwA | (refine bwS ?_ (by first | omega | simp <;> omega) _) | refine bwC ?_ (by assumption))), ?_⟩; clear hK K) | refine ⟨(by repeat (first | exact .refl _ _ | apply bwD | apply bwA | (refine bwS ?_ (by first | omega | simp <;> omega) _) | refine bwC ?_ (by assumption))), ?_⟩
                refine norm_K fun K hK => ?_
                change wpList _ _ _ [_, _, _] _ _
                have rc0 := hr.c0; have rc1 := hr.c1; have rf0 := hr.f0; have rf1 := hr.f1
                go_wp2_with fail
                first | (refine hK _ _ ⟨rfl, ?_⟩; clear hK K) | refine ⟨rfl, ?_⟩
                go_wp2_with fail
                go_meet
                have hF := frh3 (ol.rebase (B' := w22.heap.size) (by omega)) (o8.rebase (B' := w22.heap.size) (by omega)) (o11.rebase (B' := w22.heap.size) (by omega)) (o17.rebase (B' := w22.heap.size) (by omega)) (ho.more (B' := w22.heap.size) (by omega)) (by omega) (by omega) (by omega) (by omega) (by omega) (by omega)
                case rel => exact ⟨_, _, rfl, (hr.set0 _).set1 _, (hF.set_ (by show w.heap.size + 1 < w22.heap.size; omega) _).set_ (by show w.heap.size + 1 < w22.heap.size; omega) _, (by repeat (first | exact .refl _ _ | apply bwD | apply bwA | (refine bwS ?_ (by first | omega | simp <;> omega) _) | refine bwC ?_ (by assumption)))⟩
    case' rest => skip
    obtain ⟨d_, u_, rfl, hrr, hF, hbx⟩ := hcut
    obtain ⟨_, _, us, e_, ⟨gd, cd, rfl, _⟩, hu, _⟩ := id hF; cases e_
    obtain ⟨gu, cu, rfl, _⟩ := id hu
    have hul : us.length = 3 := by obtain ⟨_, _, _, _, h, _⟩ := hu; exact h
    have HU := Lib.hid hul; clear hul
    have rc0 := hrr.c0; have rc1 := hrr.c1
    go_wp2_with fail
    refine bodyPost_ret (v := .tuple #[.agg #[.slice (some ⟨gd, 0, none⟩) 3 cd, .slice (some ⟨gu, 0, none⟩) us.length cu], .int .i64 0]) (by simp [results, Tryz.results7, go_sem, rc0, rc1, HU.out]) rfl ⟨_, rfl, .inr (hF.more (by omega)), hbx⟩
  · have e1 : RPointAt1 p0 st0 xs1 xs2 = chk3 p0 st0 [xs1, xs2] := rfl
    rw [show RPointAt0 p0 st0 xs1 xs2 = ⟨[], []⟩ from if_neg (by rw [e1]; exact h0), e1]; clear e1
    obtain ⟨k, hk⟩ : ∃ k, k = chk3 p0 st0 [xs1, xs2] := ⟨_, rfl⟩
    rw [← hk] at h0 hcon ⊢
    clear hk
    have hne : (k == 0) = false := by simpa using h0
    go_enter Tryz.func7, Tryz.ntmps7
    go_wp2_with fail
    refine hcon.mono ?_; rintro e w1 ⟨rfl, hb1⟩
    rw [← hW] at hb1
    clear hW hcon
    have hr := hr.below hb1
    have rc0 := hr.c0; have rc1 := hr.c1; have rf0 := hr.f0; have rf1 := hr.f1
    go_wp2_with fail
    refine bodyPost_ret (v := .tuple #[.agg #[.slice none 0 0, .slice none 0 0], .int .i64 k]) (by simp [results, Tryz.results7, go_sem, rc0, rc1]) rfl ⟨_, rfl, .inl ⟨rfl, rfl⟩, ?_⟩
    exact bwS (bwS (by repeat (first | exact .refl _ _ | apply bwD | apply bwA | (refine bwS ?_ (by first | omega | simp <;> omega) _) | refine bwC ?_ (by assumption))) (by first | omega | simp <;> omega) _) (by first | omega | simp <;> omega) _
set_option maxHeartbeats 4000000 in
set_option maxRecDepth 100000 in
theorem sPointAt_c {p0 : Int} {x0 : Value} {st0 : List Int} {x1 : Value} {xs1 : List Int} {x2 : Value} {xs2 : List Int} {w : World} (hx0 : El w x0 st0) (hm0 : st0.length ≤ 1048576) (hx1 : El w x1 xs1) (hm1 : xs1.length ≤ 1048576) (hx2 : El w x2 xs2) (hm2 : xs2.length ≤ 1048576) :
    Calls Tryz.prog 8 #[.agg #[.int .i64 p0, x0], x1, x2] w fun e w' => ∃ v0, e = .returned (.tuple #[v0, .int .i64 (RPointAt1 p0 st0 xs1 xs2)]) ∧ OwH w' w.heap.size v0 (RPointAt0 p0 st0 xs1 xs2) ∧ Below w.heap.size w w' := by
  obtain ⟨a0, c0, rfl, _⟩ := id hx0.op; obtain ⟨a1, k1, rfl, _⟩ := id hx1.op; obtain ⟨a2, k2, rfl, _⟩ := id hx2.op
  obtain ⟨W, hW⟩ : ∃ W, W = (((w.alloc (.cells #[.int .i64 p0, .slice a0 st0.length c0] 26)).alloc (.cells #[.slice none 0 0, .slice none 0 0] 31)).alloc (.cells #[.slice a1 xs1.length k1, .slice a2 xs2.length k2] 24)) := ⟨_, rfl⟩
  have hbW : Below w.heap.size w W := by rw [hW]; exact (by repeat (first | exact .refl _ _ | apply bwD | apply bwA | (refine bwS ?_ (by first | omega | simp <;> omega) _) | refine bwC ?_ (by assumption)))
  have hx0 := hx0.below hbW; have hx1 := hx1.below hbW; have hx2 := hx2.below hbW
  have d00 : W.cell? ⟨w.heap.size, 0, none⟩ = some (.int .i64 p0) := by rw [hW]; simp [go_sem]
  have d01 : W.cell? ⟨w.heap.size, 1, none⟩ = some (.slice a0 st0.length c0) := by rw [hW]; simp [go_sem]
  have hr : Bx W (w.heap.size + 1) (.slice none 0 0) (.slice none 0 0) := by rw [hW]; exact Bx.below (by unfold Bx; rw [show w.heap.size + 1 = (w.alloc (.cells #[.int .i64 p0, .slice a0 st0.length c0] 26)).heap.size by simp]; exact heap_alloc_new _ _) (by repeat (first | exact .refl _ _ | apply bwD | apply bwA | (refine bwS ?_ (by first | omega | simp <;> omega) _) | refine bwC ?_ (by assumption)))
  have hWs : W.heap.size = w.heap.size + 1 + 1 + 1 := by rw [hW]; simp
  have gl : Re W (.slice (some ⟨w.heap.size + 1 + 1, 0, none⟩) 2 2) [xs1, xs2] := Re.two hx1 (by rw [hW]; simp [go_sem]) hx2 (by rw [hW]; simp [go_sem]) (by decide) (by decide)
  have hcon := sl14e_c (p := p0) hx0 gl hm0 (by simp) (by intro xs hx; simp at hx; rcases hx with rfl | rfl <;> assumption)
  have HWs := Lib.hid hWs; clear hWs
  rw [hW] at hcon
  by_cases h0 : chk3 p0 st0 [xs1, xs2] = 0
  · rw [h0] at hcon
    obtain ⟨hd, hall⟩ := chk3_pos h0
    have ex1 := hall xs1 (by simp); have ex2 := hall xs2 (by simp); clear hall
    have e1 : RPointAt1 p0 st0 xs1 xs2 = 0 := h0
    rw [show RPointAt0 p0 st0 xs1 xs2 = pointH p0 st0 xs1 xs2 from if_pos e1, e1]; clear e1
    go_enter Tryz.func8, Tryz.ntmps8
    go_wp2_with fail
    refine hcon.mono ?_; rintro e w1 ⟨rfl, hb1⟩
    rw [← hW] at hb1
    clear hW hcon
    have hx0 := hx0.below hb1; have hx1 := hx1.below hb1; have hx2 := hx2.below hb1; have d00 := kept hb1 d00; have d01 := kept hb1 d01; have hr := hr.below hb1
    have hz1_ : w.heap.size + 1 + 1 + 1 ≤ w1.heap.size := by have := hb1.size; have := HWs.out; omega
    go_wp2_with fail
    refine (sl17_c hd hx0 hx1 hx2 ex1 ex2).mono ?_; rintro e w22 ⟨v, rfl, hv, hb22⟩
    have hx0 := hx0.below hb22; have hx1 := hx1.below hb22; have hx2 := hx2.below hb22; have d00 := kept hb22 d00; have d01 := kept hb22 d01; have hr := hr.below hb22
    obtain ⟨d, u, us, rfl, ⟨g1, cap1, rfl, h1⟩, hu, hne⟩ := id hv
    obtain ⟨g2, cap2, rfl, _⟩ := id hu
    have hul : us.length = 3 := by obtain ⟨_, _, _, _, h, _⟩ := hu; exact h
    have HU := Lib.hid hul; clear hul
    have hu3 : (pointH p0 st0 xs1 xs2).up.length = 3 := rfl
    have hu4 : (pointH p0 st0 xs1 xs2).dg.length = 3 := rfl
    have rc0 := hr.c0; have rc1 := hr.c1; have rf0 := hr.f0; have rf1 := hr.f1
    go_wp2_with fail
    refine bodyPost_ret (v := .tuple #[.agg #[.slice (some ⟨g1, 0, none⟩) (pointH p0 st0 xs1 xs2).dg.length cap1, .slice (some ⟨g2, 0, none⟩) us.length cap2], .int .i64 0]) (by simp [results, Tryz.results8, go_sem, rc0, rc1, HU.out, hu3, hu4]) rfl ⟨_, rfl, .inr ?_, ?_⟩
    · exact ((hv.set_ (by first | omega | simp <;> omega) _).set_ (by first | omega | simp <;> omega) _).more (below_le (by repeat (first | exact .refl _ _ | apply bwD | apply bwA | (refine bwS ?_ (by first | omega | simp <;> omega) _) | refine bwC ?_ (by assumption))))
    · exact bwS (bwS (by repeat (first | exact .refl _ _ | apply bwD | apply bwA | (refine bwS ?_ (by first | omega | simp <;> omega) _) | refine bwC ?_ (by assumption))) (by first | omega | simp <;> omega) _) (by first | omega | simp <;> omega) _
  · have e1 : RPointAt1 p0 st0 xs1 xs2 = chk3 p0 st0 [xs1, xs2] := rfl
    rw [show RPointAt0 p0 st0 xs1 xs2 = ⟨[], []⟩ from if_neg (by rw [e1]; exact h0), e1]; clear e1
    obtain ⟨k, hk⟩ : ∃ k, k = chk3 p0 st0 [xs1, xs2] := ⟨_, rfl⟩
    rw [← hk] at h0 hcon ⊢
    clear hk
    have hne : (k == 0) = false := by simpa using h0
    go_enter Tryz.func8, Tryz.ntmps8
    go_wp2_with fail
    refine hcon.mono ?_; rintro e w1 ⟨rfl, hb1⟩
    rw [← hW] at hb1
    clear hW hcon
    have hr := hr.below hb1
    have rc0 := hr.c0; have rc1 := hr.c1; have rf0 := hr.f0; have rf1 := hr.f1
    go_wp2_with fail
    refine bodyPost_ret (v := .tuple #[.agg #[.slice none 0 0, .slice none 0 0], .int .i64 k]) (by simp [results, Tryz.results8, go_sem, rc0, rc1]) rfl ⟨_, rfl, .inl ⟨rfl, rfl⟩, ?_⟩
    exact bwS (bwS (by repeat (first | exact .refl _ _ | apply bwD | apply bwA | (refine bwS ?_ (by first | omega | simp <;> omega) _) | refine bwC ?_ (by assumption))) (by first | omega | simp <;> omega) _) (by first | omega | simp <;> omega) _
end Go.Proofs.YtgcelfnjijhmkaaGreat
