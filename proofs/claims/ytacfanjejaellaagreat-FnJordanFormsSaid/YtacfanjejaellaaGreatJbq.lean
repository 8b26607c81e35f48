/- Texts joined for a claim: HcV, HcW, HcX. -/
import Derived.Test.YtacfanjejaellaaGreatJbp
/-
  Equality of matrices, idempotents and ranks.
-/
namespace Go.Proofs.YtacfanjejaellaaGreat
open Go.RowKit

theorem nums_lt {p : Int} {n : Nat} {X : Her} (h : isH p n X = true) (hn : n ≤ 8) : (numsH X).length ≤ 1000 := by rw [nums_len h]; omega
theorem rank_c {p : Int} {s x : Value} {st : List Int} {X : Her} {w : World} (hd : Dok p st) (hs : El w s st) (hx : Hv w x X) (hX : isH p (sz st.length) X = true) :
    Calls Tryz.prog 60 #[.agg #[.int .i64 p, s], x] w fun e w' => e = .returned (.int .i64 (rankH p st X)) ∧ Below w.heap.size w w' := by
  have hp1 := hd.hp.lo
  have hsz := sz_le hd
  have hA := adjH_is (p := p) (by omega) hX
  have l1 := nums_lt hX hsz.2
  have l2 := nums_lt hA hsz.2
  obtain ⟨a0, c0, rfl, _⟩ := id hs.op
  obtain ⟨dv1, uv1, rfl, hd1, hu1⟩ := id hx; obtain ⟨a1, c1, rfl, _⟩ := id hd1.op; obtain ⟨b1, k1, rfl, _⟩ := id hu1
  have hR : rankH p st X = if isZ (numsH X) = true then 0 else if isZ (numsH (adjH p st X)) = true then 1 else if detH p st X = 0 then 2 else 3 := rfl
  cases h0 : isZ (numsH X)
  case' true =>
    rw [if_pos h0] at hR
    have HR := Lib.hid hR; clear hR
    go_enter Tryz.func60, Tryz.ntmps60
    have hb0 : Below w.heap.size w ((w.alloc (.cells #[.int .i64 p, .slice a0 st.length c0] 26)).alloc (.cells #[.slice a1 X.dg.length c1, .slice b1 X.up.length k1] 31)) := (by repeat (first | exact Below.refl _ _ | apply blw_drew | apply blw_alloc | (refine blw_set ?_ (by first | omega | (simp; done) | (simp; omega)) _) | refine below_chain ?_ (by assumption)))
    have hs := hs.below hb0; have hx := hx.below hb0
    have d0 : ((w.alloc (.cells #[.int .i64 p, .slice a0 st.length c0] 26)).alloc (.cells #[.slice a1 X.dg.length c1, .slice b1 X.up.length k1] 31)).cell? ⟨w.heap.size, 0, none⟩ = some (.int .i64 p) := by simp [go_sem]
    have d1 : ((w.alloc (.cells #[.int .i64 p, .slice a0 st.length c0] 26)).alloc (.cells #[.slice a1 X.dg.length c1, .slice b1 X.up.length k1] 31)).cell? ⟨w.heap.size, 1, none⟩ = some (.slice a0 st.length c0) := by simp [go_sem]
    have e0 : ((w.alloc (.cells #[.int .i64 p, .slice a0 st.length c0] 26)).alloc (.cells #[.slice a1 X.dg.length c1, .slice b1 X.up.length k1] 31)).cell? ⟨w.heap.size + 1, 0, none⟩ = some (.slice a1 X.dg.length c1) := by simp [go_sem]
    have e1 : ((w.alloc (.cells #[.int .i64 p, .slice a0 st.length c0] 26)).alloc (.cells #[.slice a1 X.dg.length c1, .slice b1 X.up.length k1] 31)).cell? ⟨w.heap.size + 1, 1, none⟩ = some (.slice b1 X.up.length k1) := by simp [go_sem]
    go_wp2_with fail
    refine (nums_c hx hX hsz.1 hsz.2).mono ?_; rintro e w1 ⟨v1, rfl, h1, hb1⟩
    have hs := hs.below hb1; have hx := hx.below hb1; have d0 := kept hb1 d0; have d1 := kept hb1 d1; have e0 := kept hb1 e0; have e1 := kept hb1 e1
    go_wp2_with fail
    refine (iszero_c h1.sl (by omega)).mono ?_; rintro e w2 ⟨rfl, rfl⟩
    go_wp2_with fail
    go_ret
    exact ⟨by rw [HR.out]; rfl, (by repeat (first | exact Below.refl _ _ | apply blw_drew | apply blw_alloc | (refine blw_set ?_ (by first | omega | (simp; done) | (simp; omega)) _) | refine below_chain ?_ (by assumption)))⟩
  rw [if_neg (by rw [h0]; decide)] at hR
  cases h1_ : isZ (numsH (adjH p st X))
  case' true =>
    rw [if_pos h1_] at hR
    have HR := Lib.hid hR; clear hR
    go_enter Tryz.func60, Tryz.ntmps60
    have hb0 : Below w.heap.size w ((w.alloc (.cells #[.int .i64 p, .slice a0 st.length c0] 26)).alloc (.cells #[.slice a1 X.dg.length c1, .slice b1 X.up.length k1] 31)) := (by repeat (first | exact Below.refl _ _ | apply blw_drew | apply blw_alloc | (refine blw_set ?_ (by first | omega | (simp; done) | (simp; omega)) _) | refine below_chain ?_ (by assumption)))
    have hs := hs.below hb0; have hx := hx.below hb0
    have d0 : ((w.alloc (.cells #[.int .i64 p, .slice a0 st.length c0] 26)).alloc (.cells #[.slice a1 X.dg.length c1, .slice b1 X.up.length k1] 31)).cell? ⟨w.heap.size, 0, none⟩ = some (.int .i64 p) := by simp [go_sem]
    have d1 : ((w.alloc (.cells #[.int .i64 p, .slice a0 st.length c0] 26)).alloc (.cells #[.slice a1 X.dg.length c1, .slice b1 X.up.length k1] 31)).cell? ⟨w.heap.size, 1, none⟩ = some (.slice a0 st.length c0) := by simp [go_sem]
    have e0 : ((w.alloc (.cells #[.int .i64 p, .slice a0 st.length c0] 26)).alloc (.cells #[.slice a1 X.dg.length c1, .slice b1 X.up.length k1] 31)).cell? ⟨w.heap.size + 1, 0, none⟩ = some (.slice a1 X.dg.length c1) := by simp [go_sem]
    have e1 : ((w.alloc (.cells #[.int .i64 p, .slice a0 st.length c0] 26)).alloc (.cells #[.slice a1 X.dg.length c1, .slice b1 X.up.length k1] 31)).cell? ⟨w.heap.size + 1, 1, none⟩ = some (.slice b1 X.up.length k1) := by simp [go_sem]
    go_wp2_with fail
    refine (nums_c hx hX hsz.1 hsz.2).mono ?_; rintro e w1 ⟨v1, rfl, h1, hb1⟩
    have hs := hs.below hb1; have hx := hx.below hb1; have d0 := kept hb1 d0; have d1 := kept hb1 d1; have e0 := kept hb1 e0; have e1 := kept hb1 e1
    go_wp2_with fail
    refine (iszero_c h1.sl (by omega)).mono ?_; rintro e w2 ⟨rfl, rfl⟩
    go_wp2_with fail
    refine (adj_c hd hs hx hX).mono ?_; rintro e w3 ⟨v2, rfl, h2, hb3⟩
    have hs := hs.below hb3; have hx := hx.below hb3; have d0 := kept hb3 d0; have d1 := kept hb3 d1; have e0 := kept hb3 e0; have e1 := kept hb3 e1; have h1 := h1.below hb3
    go_wp2_with fail
    refine (nums_c h2.hv hA hsz.1 hsz.2).mono ?_; rintro e w4 ⟨v3, rfl, h3, hb4⟩
    have hs := hs.below hb4; have hx := hx.below hb4; have d0 := kept hb4 d0; have d1 := kept hb4 d1; have e0 := kept hb4 e0; have e1 := kept hb4 e1; have h1 := h1.below hb4; have h2 := h2.below hb4
    go_wp2_with fail
    refine (iszero_c h3.sl (by omega)).mono ?_; rintro e w5 ⟨rfl, rfl⟩
    go_wp2_with fail
    go_ret
    exact ⟨by rw [HR.out]; rfl, (by repeat (first | exact Below.refl _ _ | apply blw_drew | apply blw_alloc | (refine blw_set ?_ (by first | omega | (simp; done) | (simp; omega)) _) | refine below_chain ?_ (by assumption)))⟩
  rw [if_neg (by rw [h1_]; decide)] at hR
  by_cases h2_ : detH p st X = 0
  all_goals
    first | rw [if_pos h2_] at hR | rw [if_neg h2_] at hR
    obtain ⟨q, hq⟩ : ∃ q, q = detH p st X := ⟨_, rfl⟩
    rw [← hq] at h2_
    have HR := Lib.hid hR; have HQ := Lib.hid hq; clear hR hq
    try (have hne : (q == 0) = false := by simpa using h2_)
    go_enter Tryz.func60, Tryz.ntmps60
    have hb0 : Below w.heap.size w ((w.alloc (.cells #[.int .i64 p, .slice a0 st.length c0] 26)).alloc (.cells #[.slice a1 X.dg.length c1, .slice b1 X.up.length k1] 31)) := (by repeat (first | exact Below.refl _ _ | apply blw_drew | apply blw_alloc | (refine blw_set ?_ (by first | omega | (simp; done) | (simp; omega)) _) | refine below_chain ?_ (by assumption)))
    have hs := hs.below hb0; have hx := hx.below hb0
    have d0 : ((w.alloc (.cells #[.int .i64 p, .slice a0 st.length c0] 26)).alloc (.cells #[.slice a1 X.dg.length c1, .slice b1 X.up.length k1] 31)).cell? ⟨w.heap.size, 0, none⟩ = some (.int .i64 p) := by simp [go_sem]
    have d1 : ((w.alloc (.cells #[.int .i64 p, .slice a0 st.length c0] 26)).alloc (.cells #[.slice a1 X.dg.length c1, .slice b1 X.up.length k1] 31)).cell? ⟨w.heap.size, 1, none⟩ = some (.slice a0 st.length c0) := by simp [go_sem]
    have e0 : ((w.alloc (.cells #[.int .i64 p, .slice a0 st.length c0] 26)).alloc (.cells #[.slice a1 X.dg.length c1, .slice b1 X.up.length k1] 31)).cell? ⟨w.heap.size + 1, 0, none⟩ = some (.slice a1 X.dg.length c1) := by simp [go_sem]
    have e1 : ((w.alloc (.cells #[.int .i64 p, .slice a0 st.length c0] 26)).alloc (.cells #[.slice a1 X.dg.length c1, .slice b1 X.up.length k1] 31)).cell? ⟨w.heap.size + 1, 1, none⟩ = some (.slice b1 X.up.length k1) := by simp [go_sem]
    go_wp2_with fail
    refine (nums_c hx hX hsz.1 hsz.2).mono ?_; rintro e w1 ⟨v1, rfl, h1, hb1⟩
    have hs := hs.below hb1; have hx := hx.below hb1; have d0 := kept hb1 d0; have d1 := kept hb1 d1; have e0 := kept hb1 e0; have e1 := kept hb1 e1
    go_wp2_with fail
    refine (iszero_c h1.sl (by omega)).mono ?_; rintro e w2 ⟨rfl, rfl⟩
    go_wp2_with fail
    refine (adj_c hd hs hx hX).mono ?_; rintro e w3 ⟨v2, rfl, h2, hb3⟩
    have hs := hs.below hb3; have hx := hx.below hb3; have d0 := kept hb3 d0; have d1 := kept hb3 d1; have e0 := kept hb3 e0; have e1 := kept hb3 e1; have h1 := h1.below hb3
    go_wp2_with fail
    refine (nums_c h2.hv hA hsz.1 hsz.2).mono ?_; rintro e w4 ⟨v3, rfl, h3, hb4⟩
    have hs := hs.below hb4; have hx := hx.below hb4; have d0 := kept hb4 d0; have d1 := kept hb4 d1; have e0 := kept hb4 e0; have e1 := kept hb4 e1; have h1 := h1.below hb4; have h2 := h2.below hb4
    go_wp2_with fail
    refine (iszero_c h3.sl (by omega)).mono ?_; rintro e w5 ⟨rfl, rfl⟩
    go_wp2_with fail
    refine (jdet_c hd hs hx hX).mono ?_; rintro e w6 ⟨rfl, hb6⟩
    have hs := hs.below hb6; have hx := hx.below hb6; have d0 := kept hb6 d0; have d1 := kept hb6 d1; have e0 := kept hb6 e0; have e1 := kept hb6 e1; have h1 := h1.below hb6; have h2 := h2.below hb6; have h3 := h3.below hb6
    rw [← HQ.out]
    go_wp2_with fail
    go_ret
    exact ⟨by rw [HR.out]; rfl, (by repeat (first | exact Below.refl _ _ | apply blw_drew | apply blw_alloc | (refine blw_set ?_ (by first | omega | (simp; done) | (simp; omega)) _) | refine below_chain ?_ (by assumption)))⟩
end Go.Proofs.YtacfanjejaellaaGreat
/-
  The reference's zero, rank, equality and idempotents.
-/
namespace Go.Proofs.YtacfanjejaellaaGreat
open Go.RowKit

end Go.Proofs.YtacfanjejaellaaGreat
/-
  The reference's equality of matrices and idempotents; multiples.
-/
namespace Go.Proofs.YtacfanjejaellaaGreat
open Go.RowKit

end Go.Proofs.YtacfanjejaellaaGreat
