/-
  Equality of matrices, idempotents and ranks.
-/
import Derived.Test.YtgcelfnjijhmkaaGreatJbi
namespace Go.Proofs.YtgcelfnjijhmkaaGreat
open Go.RowKit

def sameB (X Y : Her) : Bool := decide (numsH X = numsH Y)
def idemH (p : Int) (st : List Int) (E : Her) : Bool := sameB (jordanH p st E E) E
theorem nums_lt {p : Int} {n : Nat} {X : Her} (h : isH p n X = true) (hn : n ≤ 8) : (numsH X).length ≤ 1000 := by rw [nums_len h]; omega
theorem samei_c {p : Int} {n : Nat} {x y : Value} {X Y : Her} {w : World} (hx : Hv w x X) (hX : isH p n X = true) (hy : Hv w y Y) (hY : isH p n Y = true) (hn : 1 ≤ n) (hn2 : n ≤ 8) :
    Calls Tryz.prog 124 #[x, y] w fun e w' => e = .returned (.bool (sameB X Y)) ∧ Below w.heap.size w w' := by
  obtain ⟨dv1, uv1, rfl, hd1, hu1⟩ := id hx; obtain ⟨a1, c1, rfl, _⟩ := id hd1.op; obtain ⟨b1, k1, rfl, _⟩ := id hu1
  obtain ⟨dv2, uv2, rfl, hd2, hu2⟩ := id hy; obtain ⟨a2, c2, rfl, _⟩ := id hd2.op; obtain ⟨b2, k2, rfl, _⟩ := id hu2
  have l1 := nums_lt hX hn2
  have l2 := nums_lt hY hn2
  unfold sameB
  go_enter Tryz.func124, Tryz.ntmps124
  have hb0 : Below w.heap.size w ((w.alloc (.cells #[.slice a1 X.dg.length c1, .slice b1 X.up.length k1] 31)).alloc (.cells #[.slice a2 Y.dg.length c2, .slice b2 Y.up.length k2] 31)) := (by repeat (first | exact .refl _ _ | apply bwD | apply bwA | (refine bwS ?_ (by first | omega | simp <;> omega) _) | refine bwC ?_ (by assumption)))
  have hx := hx.below hb0; have hy := hy.below hb0
  have e0 : ((w.alloc (.cells #[.slice a1 X.dg.length c1, .slice b1 X.up.length k1] 31)).alloc (.cells #[.slice a2 Y.dg.length c2, .slice b2 Y.up.length k2] 31)).cell? ⟨w.heap.size, 0, none⟩ = some (.slice a1 X.dg.length c1) := by simp [go_sem]
  have e1 : ((w.alloc (.cells #[.slice a1 X.dg.length c1, .slice b1 X.up.length k1] 31)).alloc (.cells #[.slice a2 Y.dg.length c2, .slice b2 Y.up.length k2] 31)).cell? ⟨w.heap.size, 1, none⟩ = some (.slice b1 X.up.length k1) := by simp [go_sem]
  have f0 : ((w.alloc (.cells #[.slice a1 X.dg.length c1, .slice b1 X.up.length k1] 31)).alloc (.cells #[.slice a2 Y.dg.length c2, .slice b2 Y.up.length k2] 31)).cell? ⟨w.heap.size + 1, 0, none⟩ = some (.slice a2 Y.dg.length c2) := by simp [go_sem]
  have f1 : ((w.alloc (.cells #[.slice a1 X.dg.length c1, .slice b1 X.up.length k1] 31)).alloc (.cells #[.slice a2 Y.dg.length c2, .slice b2 Y.up.length k2] 31)).cell? ⟨w.heap.size + 1, 1, none⟩ = some (.slice b2 Y.up.length k2) := by simp [go_sem]
  go_wp2_with fail
  refine region_flow [(false, [(0, 1), (2, 1), (1, 5)]), (false, [(3, 4), (4, 4), (5, 0)])] (by kernel_rfl) ?_
  refine norm_K fun K hK => ?_
  change wpList _ _ _ [_, _, _] _ _
  have hb1 : Below ((w.alloc (.cells #[.slice a1 X.dg.length c1, .slice b1 X.up.length k1] 31)).alloc (.cells #[.slice a2 Y.dg.length c2, .slice b2 Y.up.length k2] 31)).heap.size ((w.alloc (.cells #[.slice a1 X.dg.length c1, .slice b1 X.up.length k1] 31)).alloc (.cells #[.slice a2 Y.dg.length c2, .slice b2 Y.up.length k2] 31)) ((w.alloc (.cells #[.slice a1 X.dg.length c1, .slice b1 X.up.length k1] 31)).alloc (.cells #[.slice a2 Y.dg.length c2, .slice b2 Y.up.length k2] 31)).drew := (by repeat (first | exact .refl _ _ | apply bwD | apply bwA | (refine bwS ?_ (by first | omega | simp <;> omega) _) | refine bwC ?_ (by assumption)))
  have hx := hx.below hb1; have hy := hy.below hb1; have e0 := kept hb1 e0; have e1 := kept hb1 e1; have f0 := kept hb1 f0; have f1 := kept hb1 f1
  generalize ((w.alloc (.cells #[.slice a1 X.dg.length c1, .slice b1 X.up.length k1] 31)).alloc (.cells #[.slice a2 Y.dg.length c2, .slice b2 Y.up.length k2] 31)).drew = wq at *
  go_wp2_with fail
  refine (nums_c hx hX hn hn2).mono ?_; rintro e w2 ⟨v1, rfl, h1, hb2⟩
  have hx := hx.below hb2; have hy := hy.below hb2; have e0 := kept hb2 e0; have e1 := kept hb2 e1; have f0 := kept hb2 f0; have f1 := kept hb2 f1
  go_wp2_with fail
  have hz0 : Below wq.heap.size wq w2 := (by repeat (first | exact .refl _ _ | apply bwD | apply bwA | (refine bwS ?_ (by first | omega | simp <;> omega) _) | refine bwC ?_ (by assumption)))
  first | (refine hK _ _ ⟨hz0, ?_⟩; clear hK K) | refine ⟨hz0, ?_⟩
  clear hz0
  refine norm_K fun K hK => ?_
  change wpList _ _ _ [_, _, _] _ _
  go_wp2_with fail
  refine (nums_c hy hY hn hn2).mono ?_; rintro e w3 ⟨v2, rfl, h2, hb3⟩
  have hx := hx.below hb3; have hy := hy.below hb3; have e0 := kept hb3 e0; have e1 := kept hb3 e1; have f0 := kept hb3 f0; have f1 := kept hb3 f1; have h1 := h1.below hb3
  go_wp2_with fail
  refine (equal_c h1.sl h2.sl (by omega) (by omega)).mono ?_; rintro e w4 ⟨rfl, hb4⟩
  have hx := hx.below hb4; have hy := hy.below hb4; have e0 := kept hb4 e0; have e1 := kept hb4 e1; have f0 := kept hb4 f0; have f1 := kept hb4 f1; have h1 := h1.below hb4; have h2 := h2.below hb4
  go_wp2_with fail
  first | (refine hK _ _ ⟨rfl, ?_⟩; clear hK K) | refine ⟨rfl, ?_⟩
  go_wp2_with fail
  go_ret
  exact ⟨rfl, (by repeat (first | exact .refl _ _ | apply bwD | apply bwA | (refine bwS ?_ (by first | omega | simp <;> omega) _) | refine bwC ?_ (by assumption)))⟩
theorem idem_c {p : Int} {s x : Value} {st : List Int} {X : Her} {w : World} (hd : Dok p st) (hs : El w s st) (hx : Hv w x X) (hX : isH p (sz st.length) X = true) :
    Calls Tryz.prog 93 #[.agg #[.int .i64 p, s], x] w fun e w' => e = .returned (.bool (idemH p st X)) ∧ Below w.heap.size w w' := by
  have hp1 := hd.hp.lo
  have hsz := sz_le hd
  have hJ := jordanH_is (p := p) (by omega) hX hX
  obtain ⟨a0, c0, rfl, _⟩ := id hs.op
  obtain ⟨dv1, uv1, rfl, hd1, hu1⟩ := id hx; obtain ⟨a1, c1, rfl, _⟩ := id hd1.op; obtain ⟨b1, k1, rfl, _⟩ := id hu1
  unfold idemH
  go_enter Tryz.func93, Tryz.ntmps93
  have hb0 : Below w.heap.size w ((w.alloc (.cells #[.int .i64 p, .slice a0 st.length c0] 26)).alloc (.cells #[.slice a1 X.dg.length c1, .slice b1 X.up.length k1] 31)) := (by repeat (first | exact .refl _ _ | apply bwD | apply bwA | (refine bwS ?_ (by first | omega | simp <;> omega) _) | refine bwC ?_ (by assumption)))
  have hs := hs.below hb0; have hx := hx.below hb0
  have d0 : ((w.alloc (.cells #[.int .i64 p, .slice a0 st.length c0] 26)).alloc (.cells #[.slice a1 X.dg.length c1, .slice b1 X.up.length k1] 31)).cell? ⟨w.heap.size, 0, none⟩ = some (.int .i64 p) := by simp [go_sem]
  have d1 : ((w.alloc (.cells #[.int .i64 p, .slice a0 st.length c0] 26)).alloc (.cells #[.slice a1 X.dg.length c1, .slice b1 X.up.length k1] 31)).cell? ⟨w.heap.size, 1, none⟩ = some (.slice a0 st.length c0) := by simp [go_sem]
  have e0 : ((w.alloc (.cells #[.int .i64 p, .slice a0 st.length c0] 26)).alloc (.cells #[.slice a1 X.dg.length c1, .slice b1 X.up.length k1] 31)).cell? ⟨w.heap.size + 1, 0, none⟩ = some (.slice a1 X.dg.length c1) := by simp [go_sem]
  have e1 : ((w.alloc (.cells #[.int .i64 p, .slice a0 st.length c0] 26)).alloc (.cells #[.slice a1 X.dg.length c1, .slice b1 X.up.length k1] 31)).cell? ⟨w.heap.size + 1, 1, none⟩ = some (.slice b1 X.up.length k1) := by simp [go_sem]
  go_wp2_with fail
  refine region_flow [(false, [(0, 1), (1, 1), (2, 1), (4, 1), (3, 5)]), (false, [(5, 4), (6, 0)])] (by kernel_rfl) ?_
  refine norm_K fun K hK => ?_
  change wpList _ _ _ [_, _, _, _, _] _ _
  have hb1 : Below ((w.alloc (.cells #[.int .i64 p, .slice a0 st.length c0] 26)).alloc (.cells #[.slice a1 X.dg.length c1, .slice b1 X.up.length k1] 31)).heap.size ((w.alloc (.cells #[.int .i64 p, .slice a0 st.length c0] 26)).alloc (.cells #[.slice a1 X.dg.length c1, .slice b1 X.up.length k1] 31)) ((w.alloc (.cells #[.int .i64 p, .slice a0 st.length c0] 26)).alloc (.cells #[.slice a1 X.dg.length c1, .slice b1 X.up.length k1] 31)).drew := (by repeat (first | exact .refl _ _ | apply bwD | apply bwA | (refine bwS ?_ (by first | omega | simp <;> omega) _) | refine bwC ?_ (by assumption)))
  have hs := hs.below hb1; have hx := hx.below hb1; have d0 := kept hb1 d0; have d1 := kept hb1 d1; have e0 := kept hb1 e0; have e1 := kept hb1 e1
  generalize ((w.alloc (.cells #[.int .i64 p, .slice a0 st.length c0] 26)).alloc (.cells #[.slice a1 X.dg.length c1, .slice b1 X.up.length k1] 31)).drew = wq at *
  go_wp2_with fail
  refine (jordan_c hd hs hx hX hx hX).mono ?_; rintro e w2 ⟨v1, rfl, h1, hb2⟩
  have hs := hs.below hb2; have hx := hx.below hb2; have d0 := kept hb2 d0; have d1 := kept hb2 d1; have e0 := kept hb2 e0; have e1 := kept hb2 e1
  go_wp2_with fail
  have hz0 : Below wq.heap.size wq w2 := (by repeat (first | exact .refl _ _ | apply bwD | apply bwA | (refine bwS ?_ (by first | omega | simp <;> omega) _) | refine bwC ?_ (by assumption)))
  first | (refine hK _ _ ⟨hz0, ?_⟩; clear hK K) | refine ⟨hz0, ?_⟩
  clear hz0
  refine norm_K fun K hK => ?_
  change wpList _ _ _ [_, _] _ _
  go_wp2_with fail
  refine (samei_c h1.hv hJ hx hX hsz.1 hsz.2).mono ?_; rintro e w3 ⟨rfl, hb3⟩
  have hs := hs.below hb3; have hx := hx.below hb3; have d0 := kept hb3 d0; have d1 := kept hb3 d1; have e0 := kept hb3 e0; have e1 := kept hb3 e1; have h1 := h1.below hb3
  go_wp2_with fail
  first | (refine hK _ _ ⟨rfl, ?_⟩; clear hK K) | refine ⟨rfl, ?_⟩
  go_wp2_with fail
  go_ret
  exact ⟨rfl, (by repeat (first | exact .refl _ _ | apply bwD | apply bwA | (refine bwS ?_ (by first | omega | simp <;> omega) _) | refine bwC ?_ (by assumption)))⟩
theorem rank_c {p : Int} {s x : Value} {st : List Int} {X : Her} {w : World} (hd : Dok p st) (hs : El w s st) (hx : Hv w x X) (hX : isH p (sz st.length) X = true) :
    Calls Tryz.prog 44 #[.agg #[.int .i64 p, s], x] w fun e w' => e = .returned (.int .i64 (rankH p st X)) ∧ Below w.heap.size w w' := by
  have hp1 := hd.hp.lo
  have hsz := sz_le hd
  have hA := adjH_is (p := p) (by omega) hX
  have l1 := nums_lt hX hsz.2
  have l2 := nums_lt hA hsz.2
  obtain ⟨a0, c0, rfl, _⟩ := id hs.op
  obtain ⟨dv1, uv1, rfl, hd1, hu1⟩ := id hx; obtain ⟨a1, c1, rfl, _⟩ := id hd1.op; obtain ⟨b1, k1, rfl, _⟩ := id hu1
  have hR : rankH p st X = if isZ (numsH X) = true then 0 else if isZ (numsH (adjH p st X)) = true then 1 else if detH p st X = 0 then 2 else 3 := rfl
  cases h0 : isZ (numsH X)
  case' true =>
    rw [if_pos h0] at hR
    have HR := Lib.hid hR; clear hR
    go_enter Tryz.func44, Tryz.ntmps44
    have hb0 : Below w.heap.size w ((w.alloc (.cells #[.int .i64 p, .slice a0 st.length c0] 26)).alloc (.cells #[.slice a1 X.dg.length c1, .slice b1 X.up.length k1] 31)) := (by repeat (first | exact .refl _ _ | apply bwD | apply bwA | (refine bwS ?_ (by first | omega | simp <;> omega) _) | refine bwC ?_ (by assumption)))
    have hs := hs.below hb0; have hx := hx.below hb0
    have d0 : ((w.alloc (.cells #[.int .i64 p, .slice a0 st.length c0] 26)).alloc (.cells #[.slice a1 X.dg.length c1, .slice b1 X.up.length k1] 31)).cell? ⟨w.heap.size, 0, none⟩ = some (.int .i64 p) := by simp [go_sem]
    have d1 : ((w.alloc (.cells #[.int .i64 p, .slice a0 st.length c0] 26)).alloc (.cells #[.slice a1 X.dg.length c1, .slice b1 X.up.length k1] 31)).cell? ⟨w.heap.size, 1, none⟩ = some (.slice a0 st.length c0) := by simp [go_sem]
    have e0 : ((w.alloc (.cells #[.int .i64 p, .slice a0 st.length c0] 26)).alloc (.cells #[.slice a1 X.dg.length c1, .slice b1 X.up.length k1] 31)).cell? ⟨w.heap.size + 1, 0, none⟩ = some (.slice a1 X.dg.length c1) := by simp [go_sem]
    have e1 : ((w.alloc (.cells #[.int .i64 p, .slice a0 st.length c0] 26)).alloc (.cells #[.slice a1 X.dg.length c1, .slice b1 X.up.length k1] 31)).cell? ⟨w.heap.size + 1, 1, none⟩ = some (.slice b1 X.up.length k1) := by simp [go_sem]
    go_wp2_with fail
    refine (nums_c hx hX hsz.1 hsz.2).mono ?_; rintro e w1 ⟨v1, rfl, h1, hb1⟩
    have hs := hs.below hb1; have hx := hx.below hb1; have d0 := kept hb1 d0; have d1 := kept hb1 d1; have e0 := kept hb1 e0; have e1 := kept hb1 e1
    go_wp2_with fail
    refine (iszero_c h1.sl (by omega)).mono ?_; rintro e w2 ⟨rfl, rfl⟩
    go_wp2_with fail
    go_ret
    exact ⟨by rw [HR.out]; rfl, (by repeat (first | exact .refl _ _ | apply bwD | apply bwA | (refine bwS ?_ (by first | omega | simp <;> omega) _) | refine bwC ?_ (by assumption)))⟩
  rw [if_neg (by rw [h0]; decide)] at hR
  cases h1_ : isZ (numsH (adjH p st X))
  case' true =>
    rw [if_pos h1_] at hR
    have HR := Lib.hid hR; clear hR
    go_enter Tryz.func44, Tryz.ntmps44
    have hb0 : Below w.heap.size w ((w.alloc (.cells #[.int .i64 p, .slice a0 st.length c0] 26)).alloc (.cells #[.slice a1 X.dg.length c1, .slice b1 X.up.length k1] 31)) := (by repeat (first | exact .refl _ _ | apply bwD | apply bwA | (refine bwS ?_ (by first | omega | simp <;> omega) _) | refine bwC ?_ (by assumption)))
    have hs := hs.below hb0; have hx := hx.below hb0
    have d0 : ((w.alloc (.cells #[.int .i64 p, .slice a0 st.length c0] 26)).alloc (.cells #[.slice a1 X.dg.length c1, .slice b1 X.up.length k1] 31)).cell? ⟨w.heap.size, 0, none⟩ = some (.int .i64 p) := by simp [go_sem]
    have d1 : ((w.alloc (.cells #[.int .i64 p, .slice a0 st.length c0] 26)).alloc (.cells #[.slice a1 X.dg.length c1, .slice b1 X.up.length k1] 31)).cell? ⟨w.heap.size, 1, none⟩ = some (.slice a0 st.length c0) := by simp [go_sem]
    have e0 : ((w.alloc (.cells #[.int .i64 p, .slice a0 st.length c0] 26)).alloc (.cells #[.slice a1 X.dg.length c1, .slice b1 X.up.length k1] 31)).cell? ⟨w.heap.size + 1, 0, none⟩ = some (.slice a1 X.dg.length c1) := by simp [go_sem]
    have e1 : ((w.alloc (.cells #[.int .i64 p, .slice a0 st.length c0] 26)).alloc (.cells #[.slice a1 X.dg.length c1, .slice b1 X.up.length k1] 31)).cell? ⟨w.heap.size + 1, 1, none⟩ = some (.slice b1 X.up.length k1) := by simp [go_sem]
    go_wp2_with fail
    refine (nums_c hx hX hsz.1 hsz.2).mono ?_; rintro e w1 ⟨v1, rfl, h1, hb1⟩
    have hs := hs.below hb1; have hx := hx.below hb1; have d0 := kept hb1 d0; have d1 := kept hb1 d1; have e0 := kept hb1 e0; have e1 := kept hb1 e1
    go_wp2_with fail
    refine (iszero_c h1.sl (by omega)).mono ?_; rintro e w2 ⟨rfl, rfl⟩
    go_wp2_with fail
    refine (adj_c hd hs hx hX).mono ?_; rintro e w3 ⟨v2, rfl, h2, hb3⟩
    have hs := hs.below hb3; have hx := hx.below hb3; have d0 := kept hb3 d0; have d1 := kept hb3 d1; have e0 := kept hb3 e0; have e1 := kept hb3 e1; have h1 := h1.below hb3
    go_wp2_with fail
    refine (nums_c h2.hv hA hsz.1 hsz.2).mono ?_; rintro e w4 ⟨v3, rfl, h3, hb4⟩
    have hs := hs.below hb4; have hx := hx.below hb4; have d0 := kept hb4 d0; have d1 := kept hb4 d1; have e0 := kept hb4 e0; have e1 := kept hb4 e1; have h1 := h1.below hb4; have h2 := h2.below hb4
    go_wp2_with fail
    refine (iszero_c h3.sl (by omega)).mono ?_; rintro e w5 ⟨rfl, rfl⟩
    go_wp2_with fail
    go_ret
    exact ⟨by rw [HR.out]; rfl, (by repeat (first | exact .refl _ _ | apply bwD | apply bwA | (refine bwS ?_ (by first | omega | simp <;> omega) _) | refine bwC ?_ (by assumption)))⟩
  rw [if_neg (by rw [h1_]; decide)] at hR
  by_cases h2_ : detH p st X = 0
  all_goals
    first | rw [if_pos h2_] at hR | rw [if_neg h2_] at hR
    obtain ⟨q, hq⟩ : ∃ q, q = detH p st X := ⟨_, rfl⟩
    rw [← hq] at h2_
    have HR := Lib.hid hR; have HQ := Lib.hid hq; clear hR hq
    try (have hne : (q == 0) = false := by simpa using h2_)
    go_enter Tryz.func44, Tryz.ntmps44
    have hb0 : Below w.heap.size w ((w.alloc (.cells #[.int .i64 p, .slice a0 st.length c0] 26)).alloc (.cells #[.slice a1 X.dg.length c1, .slice b1 X.up.length k1] 31)) := (by repeat (first | exact .refl _ _ | apply bwD | apply bwA | (refine bwS ?_ (by first | omega | simp <;> omega) _) | refine bwC ?_ (by assumption)))
    have hs := hs.below hb0; have hx := hx.below hb0
    have d0 : ((w.alloc (.cells #[.int .i64 p, .slice a0 st.length c0] 26)).alloc (.cells #[.slice a1 X.dg.length c1, .slice b1 X.up.length k1] 31)).cell? ⟨w.heap.size, 0, none⟩ = some (.int .i64 p) := by simp [go_sem]
    have d1 : ((w.alloc (.cells #[.int .i64 p, .slice a0 st.length c0] 26)).alloc (.cells #[.slice a1 X.dg.length c1, .slice b1 X.up.length k1] 31)).cell? ⟨w.heap.size, 1, none⟩ = some (.slice a0 st.length c0) := by simp [go_sem]
    have e0 : ((w.alloc (.cells #[.int .i64 p, .slice a0 st.length c0] 26)).alloc (.cells #[.slice a1 X.dg.length c1, .slice b1 X.up.length k1] 31)).cell? ⟨w.heap.size + 1, 0, none⟩ = some (.slice a1 X.dg.length c1) := by simp [go_sem]
    have e1 : ((w.alloc (.cells #[.int .i64 p, .slice a0 st.length c0] 26)).alloc (.cells #[.slice a1 X.dg.length c1, .slice b1 X.up.length k1] 31)).cell? ⟨w.heap.size + 1, 1, none⟩ = some (.slice b1 X.up.length k1) := by simp [go_sem]
    go_wp2_with fail
    refine (nums_c hx hX hsz.1 hsz.2).mono ?_; rintro e w1 ⟨v1, rfl, h1, hb1⟩
    have hs := hs.below hb1; have hx := hx.below hb1; have d0 := kept hb1 d0; have d1 := kept hb1 d1; have e0 := kept hb1 e0; have e1 := kept hb1 e1
    go_wp2_with fail
    refine (iszero_c h1.sl (by omega)).mono ?_; rintro e w2 ⟨rfl, rfl⟩
    go_wp2_with fail
    refine (adj_c hd hs hx hX).mono ?_; rintro e w3 ⟨v2, rfl, h2, hb3⟩
    have hs := hs.below hb3; have hx := hx.below hb3; have d0 := kept hb3 d0; have d1 := kept hb3 d1; have e0 := kept hb3 e0; have e1 := kept hb3 e1; have h1 := h1.below hb3
    go_wp2_with fail
    refine (nums_c h2.hv hA hsz.1 hsz.2).mono ?_; rintro e w4 ⟨v3, rfl, h3, hb4⟩
    have hs := hs.below hb4; have hx := hx.below hb4; have d0 := kept hb4 d0; have d1 := kept hb4 d1; have e0 := kept hb4 e0; have e1 := kept hb4 e1; have h1 := h1.below hb4; have h2 := h2.below hb4
    go_wp2_with fail
    refine (iszero_c h3.sl (by omega)).mono ?_; rintro e w5 ⟨rfl, rfl⟩
    go_wp2_with fail
    refine (jdet_c hd hs hx hX).mono ?_; rintro e w6 ⟨rfl, hb6⟩
    have hs := hs.below hb6; have hx := hx.below hb6; have d0 := kept hb6 d0; have d1 := kept hb6 d1; have e0 := kept hb6 e0; have e1 := kept hb6 e1; have h1 := h1.below hb6; have h2 := h2.below hb6; have h3 := h3.below hb6
    rw [← HQ.out]
    go_wp2_with fail
    go_ret
    exact ⟨by rw [HR.out]; rfl, (by repeat (first | exact .refl _ _ | apply bwD | apply bwA | (refine bwS ?_ (by first | omega | simp <;> omega) _) | refine bwC ?_ (by assumption)))⟩
end Go.Proofs.YtgcelfnjijhmkaaGreat
