/- Texts joined for a claim: LMapEntries, LTurnRows, CCharacteristicOf, HcV, HcW, LJordanRank. -/
import Derived.Test.YtilgbekffbphgaaGreatCMapEntries
import Derived.Test.YtilgbekffbphgaaGreatJbv
import Derived.Test.YtilgbekffbphgaaGreatCTurnRows
import Derived.Test.YtilgbekffbphgaaGreatJaz
import Derived.Test.YtilgbekffbphgaaGreatJak
import Derived.Test.YtilgbekffbphgaaGreatJbb
namespace Go.Proofs.YtilgbekffbphgaaGreat
open Go.RowKit
theorem RMapEntries0_len (p0 : Int) (st0 : List Int) (M1 : List (List Int)) (X2 : Her) (_ : st0.length <= 1048576) (_ : Msz M1) (_ : Hsz X2) : Hs (RMapEntries0 p0 st0 M1 X2) := by
 unfold RMapEntries0
 split
 ·rename_i h
  unfold RMapEntries1 at h
  split at h
  ·rename_i h0
   split at h
   ·rename_i hm
    obtain ⟨hd, hall⟩ := chkH_pos h0
    simp at hall
    exact isH_hs hd (mapH_is (by have := hd.hp.lo; omega) hm hall)
   ·exact absurd h (by decide)
  ·rename_i h0; exact absurd h h0
 ·exact Hs.none
theorem RTurnRows0_len (p0 : Int) (st0 : List Int) (X1 : Her) (n2 : Int) (_ : st0.length <= 1048576) (_ : Hsz X1) : Hs (RTurnRows0 p0 st0 X1 n2) := by
 unfold RTurnRows0
 split
 ·rename_i h
  unfold RTurnRows1 at h
  split at h
  ·rename_i h0
   split at h
   ·rename_i h2
    have hb2 : 0 <= n2 /\ n2 <= 2 := by simpa [inR] using h2
    obtain ⟨hd, hall⟩ := chkH_pos h0
    simp at hall
    exact isH_hs hd (turnH_is (by omega) hall)
   ·exact absurd h (by decide)
  ·rename_i h0; exact absurd h h0
 ·exact Hs.none
def RCharacteristicOf1 (p0 : Int) (st0 : List Int) (X1 : Her) : Int := chkH p0 st0 [X1]
def RCharacteristicOf0 (p0 : Int) (st0 : List Int) (X1 : Her) : List Int := if RCharacteristicOf1 p0 st0 X1 = 0 then [traceH p0 X1, traceH p0 (adjH p0 st0 X1), detH p0 st0 X1] else []
set_option maxHeartbeats 2000000 in
set_option maxRecDepth 100000 in
theorem iCharacteristicOf_c {p0 : Int} {x0 : Value} {st0 : List Int} {x1 : Value} {X1 : Her} {w : World} (hx0 : El w x0 st0) (hm0 : st0.length <= 1048576) (hx1 : Hv w x1 X1) (hz1 : Hsz X1) :
  Calls Tryz.prog 13 #[.agg #[.int .i64 p0, x0], x1] w fun e w' => ∃ v0, e = .returned (.tuple #[v0, .int .i64 (RCharacteristicOf1 p0 st0 X1)]) /\ OwI w' w.heap.size v0 (RCharacteristicOf0 p0 st0 X1) /\ Below w.heap.size w w' := by
 obtain ⟨a0, c0, rfl, _⟩ := id hx0.op
 obtain ⟨dv1, uv1, rfl, hd1_, hu1_⟩ := id hx1; obtain ⟨a1, c1, rfl, _⟩ := id hd1_.op; obtain ⟨b1, e1, rfl, _⟩ := id hu1_; clear hd1_ hu1_
 obtain ⟨W, hW⟩ : ∃ W, W = (((w.alloc (.cells #[.int .i64 p0, .slice a0 st0.length c0] 26)).alloc (.cells #[.slice a1 X1.dg.length c1, .slice b1 X1.up.length e1] 29)).alloc (.cells #[.slice a1 X1.dg.length c1, .slice b1 X1.up.length e1] 29)) := ⟨_, rfl⟩
 have hbW : Below w.heap.size w W := by rw [hW]; exact bwT
 have hx0 := hx0.below hbW
 have hx1 := hx1.below hbW
 have d00 : W.cell? ⟨w.heap.size, 0, none⟩ = some (.int .i64 p0) := by rw [hW]; simp [go_sem]
 have d01 : W.cell? ⟨w.heap.size, 1, none⟩ = some (.slice a0 st0.length c0) := by rw [hW]; simp [go_sem]
 have d10 : W.cell? ⟨w.heap.size + 1, 0, none⟩ = some (.slice a1 X1.dg.length c1) := by rw [hW]; simp [go_sem]
 have d11 : W.cell? ⟨w.heap.size + 1, 1, none⟩ = some (.slice b1 X1.up.length e1) := by rw [hW]; simp [go_sem]
 have hWs : W.heap.size = w.heap.size + 1 + 1 + 1 := by rw [hW]; simp
 have gl : Lh W (.slice (some ⟨w.heap.size + 1 + 1, 0, none⟩) 1 1) [X1] := Lh.one hx1 (by rw [hW]; simp [go_sem]) (by rw [hW]; simp [go_sem])
 have hcon := chkh_c (p := p0) hx0 hm0 gl (by intro X hX; simp at hX; subst hX; exact hz1) (by simp)
 have HWs := Lib.hid hWs; clear hWs
 rw [hW] at hcon
 by_cases h0 : chkH p0 st0 [X1] = 0
 ·rw [h0] at hcon
  obtain ⟨hd, hall⟩ := chkH_pos h0
  have hX1 : isH p0 (sz st0.length) X1 = true := by simp at hall; exact hall
  clear hall
  have hp1 := hd.hp.lo; have hp2 := hd.hp.hi
  have e1 : RCharacteristicOf1 p0 st0 X1 = 0 := h0
  rw [show RCharacteristicOf0 p0 st0 X1 = [traceH p0 X1, traceH p0 (adjH p0 st0 X1), detH p0 st0 X1] from if_pos e1, e1]
  clear e1
  have hA := adjH_is (p := p0) (by omega) hX1
  obtain ⟨A, hA_⟩ : ∃ A, A = adjH p0 st0 X1 := ⟨_, rfl⟩
  rw [<- hA_] at hA ⊢
  have HA := Lib.hid hA_; clear hA_
  obtain ⟨y1, hy1⟩ : ∃ y, y = traceH p0 X1 := ⟨_, rfl⟩
  obtain ⟨y2, hy2⟩ : ∃ y, y = traceH p0 A := ⟨_, rfl⟩
  obtain ⟨y3, hy3⟩ : ∃ y, y = detH p0 st0 X1 := ⟨_, rfl⟩
  rw [<- hy1, <- hy2, <- hy3]
  have HY1 := Lib.hid hy1; have HY2 := Lib.hid hy2; have HY3 := Lib.hid hy3; clear hy1 hy2 hy3
  go_enter Tryz.func13, Tryz.ntmps13
  go_wp2_with fail
  refine hcon.mono ?_; rintro e w1 ⟨rfl, hb1⟩
  rw [<- hW] at hb1
  clear hW hcon
  have hx0 := hx0.below hb1; have hx1 := hx1.below hb1; have d00 := kept hb1 d00; have d01 := kept hb1 d01; have d10 := kept hb1 d10; have d11 := kept hb1 d11
  go_wp2_with fail
  refine region_flow [(false, [(0, 1), (1, 1), (3, 1), (4, 1), (5, 1), (8, 1), (9, 1), (2, 5)]), (false, [(6, 5)]), (false, [(7, 5)]), (false, [(10, 4), (11, 4), (12, 0), (13, 0)])] (by kernel_rfl) ?_
  refine norm_K fun K hK => ?_
  change wpList _ _ _ [_, _, _, _, _, _, _, _] _ _
  have hb22 : Below w1.heap.size w1 w1.drew := bwT
  have hx0 := hx0.below hb22; have hx1 := hx1.below hb22; have d00 := kept hb22 d00; have d01 := kept hb22 d01; have d10 := kept hb22 d10; have d11 := kept hb22 d11
  generalize w1.drew = wq at *
  go_wp2_with fail
  refine (jtrace_c hd hx0 hx1 hX1).mono ?_; rintro e w23 ⟨rfl, hb23⟩
  have hx0 := hx0.below hb23; have hx1 := hx1.below hb23; have d00 := kept hb23 d00; have d01 := kept hb23 d01; have d10 := kept hb23 d10; have d11 := kept hb23 d11
  rw [<- HY1.out]
  go_wp2_with fail
  have hz0 : Below wq.heap.size wq w23 := bwT
  first | (refine hK _ _ ⟨hz0, ?_⟩; clear hK K) | refine ⟨hz0, ?_⟩
  clear hz0
  refine norm_K fun K hK => ?_
  change wpList _ _ _ [_] _ _
  go_wp2_with fail
  refine (adj_c hd hx0 hx1 hX1).mono ?_; rintro e w24 ⟨v1, rfl, hv1, hb24⟩
  have hx0 := hx0.below hb24; have hx1 := hx1.below hb24; have d00 := kept hb24 d00; have d01 := kept hb24 d01; have d10 := kept hb24 d10; have d11 := kept hb24 d11
  rw [<- HA.out] at hv1
  go_wp2_with fail
  have hz1 : Below wq.heap.size wq w24 := bwT
  first | (refine hK _ _ ⟨hz1, ?_⟩; clear hK K) | refine ⟨hz1, ?_⟩
  clear hz1
  refine norm_K fun K hK => ?_
  change wpList _ _ _ [_] _ _
  go_wp2_with fail
  refine (jtrace_c hd hx0 hv1.hv hA).mono ?_; rintro e w25 ⟨rfl, hb25⟩
  have hx0 := hx0.below hb25; have hx1 := hx1.below hb25; have d00 := kept hb25 d00; have d01 := kept hb25 d01; have d10 := kept hb25 d10; have d11 := kept hb25 d11; have hv1 := hv1.below hb25
  rw [<- HY2.out]
  go_wp2_with fail
  have hz2 : Below wq.heap.size wq w25 := bwT
  first | (refine hK _ _ ⟨hz2, ?_⟩; clear hK K) | refine ⟨hz2, ?_⟩
  clear hz2
  refine norm_K fun K hK => ?_
  change wpList _ _ _ [_, _, _, _] _ _
  go_wp2_with fail
  refine (jdet_c hd hx0 hx1 hX1).mono ?_; rintro e w26 ⟨rfl, hb26⟩
  have hx0 := hx0.below hb26; have hx1 := hx1.below hb26; have d00 := kept hb26 d00; have d01 := kept hb26 d01; have d10 := kept hb26 d10; have d11 := kept hb26 d11; have hv1 := hv1.below hb26
  rw [<- HY3.out]
  go_wp2_with fail
  have hb27 : Below w26.heap.size w26 (w26.alloc (.cells #[.int .i64 y1, .int .i64 y2, .int .i64 y3] 2)) := bwT
  have hx0 := hx0.below hb27; have hx1 := hx1.below hb27; have d00 := kept hb27 d00; have d01 := kept hb27 d01; have d10 := kept hb27 d10; have d11 := kept hb27 d11; have hv1 := hv1.below hb27
  have hl : OwnI (w26.alloc (.cells #[.int .i64 y1, .int .i64 y2, .int .i64 y3] 2)) w26.heap.size w26.heap.size [y1, y2, y3].length [y1, y2, y3].length [y1, y2, y3] := OwnI.lit (Nat.le_refl _) [y1, y2, y3] (by simp)
  go_wp2_with fail
  first | (refine hK _ _ ⟨rfl, ?_⟩; clear hK K) | refine ⟨rfl, ?_⟩
  go_wp2_with fail
  go_ret2
  exact ⟨_, rfl, (hl.fr.more (below_le bwT)).ow (Nat.le_refl _), bwT⟩
 ·have e1 : RCharacteristicOf1 p0 st0 X1 = chkH p0 st0 [X1] := rfl
  rw [show RCharacteristicOf0 p0 st0 X1 = [] from if_neg (by rw [e1]; exact h0), e1]; clear e1
  obtain ⟨k, hk⟩ : ∃ k, k = chkH p0 st0 [X1] := ⟨_, rfl⟩
  rw [<- hk] at h0 hcon ⊢
  clear hk
  have hne : (k == 0) = false := by simpa using h0
  go_enter Tryz.func13, Tryz.ntmps13
  go_wp2_with fail
  refine hcon.mono ?_; rintro e w1 ⟨rfl, hb1⟩
  rw [<- hW] at hb1
  clear hW hcon
  go_wp2_with fail
  go_ret2
  exact ⟨_, rfl, .inl ⟨rfl, rfl⟩, bwT⟩
theorem nums_lt {p : Int} {n : Nat} {X : Her} (h : isH p n X = true) (hn : n <= 8) : (numsH X).length <= 1000 := by rw [nums_len h]; omega
theorem rank_c {p : Int} {s x : Value} {st : List Int} {X : Her} {w : World} (hd : Dok p st) (hs : El w s st) (hx : Hv w x X) (hX : isH p (sz st.length) X = true) :
  Calls Tryz.prog 39 #[.agg #[.int .i64 p, s], x] w fun e w' => e = .returned (.int .i64 (rankH p st X)) /\ Below w.heap.size w w' := by
 have hp1 := hd.hp.lo
 have hsz := sz_le hd
 have hA := adjH_is (p := p) (by omega) hX
 have l1 := nums_lt hX hsz.2
 have l2 := nums_lt hA hsz.2
 obtain ⟨a0, c0, rfl, _⟩ := id hs.op
 obtain ⟨dv1, uv1, rfl, hd1, hu1⟩ := id hx; obtain ⟨a1, c1, rfl, _⟩ := id hd1.op; obtain ⟨b1, k1, rfl, _⟩ := id hu1
 have hR : rankH p st X = if isZ (numsH X) = true then 0 else if isZ (numsH (adjH p st X)) = true then 1 else if detH p st X = 0 then 2 else 3 := rfl
 cases h0 : isZ (numsH X)
 case' true =>
  rw [if_pos h0] at hR
  have HR := Lib.hid hR; clear hR
  go_enter Tryz.func39, Tryz.ntmps39
  have hb0 : Below w.heap.size w ((w.alloc (.cells #[.int .i64 p, .slice a0 st.length c0] 26)).alloc (.cells #[.slice a1 X.dg.length c1, .slice b1 X.up.length k1] 29)) := bwT
  have hs := hs.below hb0; have hx := hx.below hb0
  have d0 : ((w.alloc (.cells #[.int .i64 p, .slice a0 st.length c0] 26)).alloc (.cells #[.slice a1 X.dg.length c1, .slice b1 X.up.length k1] 29)).cell? ⟨w.heap.size, 0, none⟩ = some (.int .i64 p) := by simp [go_sem]
  have d1 : ((w.alloc (.cells #[.int .i64 p, .slice a0 st.length c0] 26)).alloc (.cells #[.slice a1 X.dg.length c1, .slice b1 X.up.length k1] 29)).cell? ⟨w.heap.size, 1, none⟩ = some (.slice a0 st.length c0) := by simp [go_sem]
  have e0 : ((w.alloc (.cells #[.int .i64 p, .slice a0 st.length c0] 26)).alloc (.cells #[.slice a1 X.dg.length c1, .slice b1 X.up.length k1] 29)).cell? ⟨w.heap.size + 1, 0, none⟩ = some (.slice a1 X.dg.length c1) := by simp [go_sem]
  have e1 : ((w.alloc (.cells #[.int .i64 p, .slice a0 st.length c0] 26)).alloc (.cells #[.slice a1 X.dg.length c1, .slice b1 X.up.length k1] 29)).cell? ⟨w.heap.size + 1, 1, none⟩ = some (.slice b1 X.up.length k1) := by simp [go_sem]
  go_wp2_with fail
  refine (nums_c hx hX hsz.1 hsz.2).mono ?_; rintro e w1 ⟨v1, rfl, h1, hb1⟩
  have hs := hs.below hb1; have hx := hx.below hb1; have d0 := kept hb1 d0; have d1 := kept hb1 d1; have e0 := kept hb1 e0; have e1 := kept hb1 e1
  go_wp2_with fail
  refine (iszero_c h1.sl (by omega)).mono ?_; rintro e w2 ⟨rfl, rfl⟩
  go_wp2_with fail
  go_ret
  exact ⟨by rw [HR.out]; rfl, bwT⟩
 rw [if_neg (by rw [h0]; decide)] at hR
 cases h1_ : isZ (numsH (adjH p st X))
 case' true =>
  rw [if_pos h1_] at hR
  have HR := Lib.hid hR; clear hR
  go_enter Tryz.func39, Tryz.ntmps39
  have hb0 : Below w.heap.size w ((w.alloc (.cells #[.int .i64 p, .slice a0 st.length c0] 26)).alloc (.cells #[.slice a1 X.dg.length c1, .slice b1 X.up.length k1] 29)) := bwT
  have hs := hs.below hb0; have hx := hx.below hb0
  have d0 : ((w.alloc (.cells #[.int .i64 p, .slice a0 st.length c0] 26)).alloc (.cells #[.slice a1 X.dg.length c1, .slice b1 X.up.length k1] 29)).cell? ⟨w.heap.size, 0, none⟩ = some (.int .i64 p) := by simp [go_sem]
  have d1 : ((w.alloc (.cells #[.int .i64 p, .slice a0 st.length c0] 26)).alloc (.cells #[.slice a1 X.dg.length c1, .slice b1 X.up.length k1] 29)).cell? ⟨w.heap.size, 1, none⟩ = some (.slice a0 st.length c0) := by simp [go_sem]
  have e0 : ((w.alloc (.cells #[.int .i64 p, .slice a0 st.length c0] 26)).alloc (.cells #[.slice a1 X.dg.length c1, .slice b1 X.up.length k1] 29)).cell? ⟨w.heap.size + 1, 0, none⟩ = some (.slice a1 X.dg.length c1) := by simp [go_sem]
  have e1 : ((w.alloc (.cells #[.int .i64 p, .slice a0 st.length c0] 26)).alloc (.cells #[.slice a1 X.dg.length c1, .slice b1 X.up.length k1] 29)).cell? ⟨w.heap.size + 1, 1, none⟩ = some (.slice b1 X.up.length k1) := by simp [go_sem]
  go_wp2_with fail
  refine (nums_c hx hX hsz.1 hsz.2).mono ?_; rintro e w1 ⟨v1, rfl, h1, hb1⟩
  have hs := hs.below hb1; have hx := hx.below hb1; have d0 := kept hb1 d0; have d1 := kept hb1 d1; have e0 := kept hb1 e0; have e1 := kept hb1 e1
  go_wp2_with fail
  refine (iszero_c h1.sl (by omega)).mono ?_; rintro e w2 ⟨rfl, rfl⟩
  go_wp2_with fail
  refine (adj_c hd hs hx hX).mono ?_; rintro e w3 ⟨v2, rfl, h2, hb3⟩
  have hs := hs.below hb3; have hx := hx.below hb3; have d0 := kept hb3 d0; have d1 := kept hb3 d1; have e0 := kept hb3 e0; have e1 := kept hb3 e1; have h1 := h1.below hb3
  go_wp2_with fail
  refine (nums_c h2.hv hA hsz.1 hsz.2).mono ?_; rintro e w4 ⟨v3, rfl, h3, hb4⟩
  have hs := hs.below hb4; have hx := hx.below hb4; have d0 := kept hb4 d0; have d1 := kept hb4 d1; have e0 := kept hb4 e0; have e1 := kept hb4 e1; have h1 := h1.below hb4; have h2 := h2.below hb4
  go_wp2_with fail
  refine (iszero_c h3.sl (by omega)).mono ?_; rintro e w5 ⟨rfl, rfl⟩
  go_wp2_with fail
  go_ret
  exact ⟨by rw [HR.out]; rfl, bwT⟩
 rw [if_neg (by rw [h1_]; decide)] at hR
 by_cases h2_ : detH p st X = 0
 all_goals
  first | rw [if_pos h2_] at hR | rw [if_neg h2_] at hR
  obtain ⟨q, hq⟩ : ∃ q, q = detH p st X := ⟨_, rfl⟩
  rw [<- hq] at h2_
  have HR := Lib.hid hR; have HQ := Lib.hid hq; clear hR hq
  try (have hne : (q == 0) = false := by simpa using h2_)
  go_enter Tryz.func39, Tryz.ntmps39
  have hb0 : Below w.heap.size w ((w.alloc (.cells #[.int .i64 p, .slice a0 st.length c0] 26)).alloc (.cells #[.slice a1 X.dg.length c1, .slice b1 X.up.length k1] 29)) := bwT
  have hs := hs.below hb0; have hx := hx.below hb0
  have d0 : ((w.alloc (.cells #[.int .i64 p, .slice a0 st.length c0] 26)).alloc (.cells #[.slice a1 X.dg.length c1, .slice b1 X.up.length k1] 29)).cell? ⟨w.heap.size, 0, none⟩ = some (.int .i64 p) := by simp [go_sem]
  have d1 : ((w.alloc (.cells #[.int .i64 p, .slice a0 st.length c0] 26)).alloc (.cells #[.slice a1 X.dg.length c1, .slice b1 X.up.length k1] 29)).cell? ⟨w.heap.size, 1, none⟩ = some (.slice a0 st.length c0) := by simp [go_sem]
  have e0 : ((w.alloc (.cells #[.int .i64 p, .slice a0 st.length c0] 26)).alloc (.cells #[.slice a1 X.dg.length c1, .slice b1 X.up.length k1] 29)).cell? ⟨w.heap.size + 1, 0, none⟩ = some (.slice a1 X.dg.length c1) := by simp [go_sem]
  have e1 : ((w.alloc (.cells #[.int .i64 p, .slice a0 st.length c0] 26)).alloc (.cells #[.slice a1 X.dg.length c1, .slice b1 X.up.length k1] 29)).cell? ⟨w.heap.size + 1, 1, none⟩ = some (.slice b1 X.up.length k1) := by simp [go_sem]
  go_wp2_with fail
  refine (nums_c hx hX hsz.1 hsz.2).mono ?_; rintro e w1 ⟨v1, rfl, h1, hb1⟩
  have hs := hs.below hb1; have hx := hx.below hb1; have d0 := kept hb1 d0; have d1 := kept hb1 d1; have e0 := kept hb1 e0; have e1 := kept hb1 e1
  go_wp2_with fail
  refine (iszero_c h1.sl (by omega)).mono ?_; rintro e w2 ⟨rfl, rfl⟩
  go_wp2_with fail
  refine (adj_c hd hs hx hX).mono ?_; rintro e w3 ⟨v2, rfl, h2, hb3⟩
  have hs := hs.below hb3; have hx := hx.below hb3; have d0 := kept hb3 d0; have d1 := kept hb3 d1; have e0 := kept hb3 e0; have e1 := kept hb3 e1; have h1 := h1.below hb3
  go_wp2_with fail
  refine (nums_c h2.hv hA hsz.1 hsz.2).mono ?_; rintro e w4 ⟨v3, rfl, h3, hb4⟩
  have hs := hs.below hb4; have hx := hx.below hb4; have d0 := kept hb4 d0; have d1 := kept hb4 d1; have e0 := kept hb4 e0; have e1 := kept hb4 e1; have h1 := h1.below hb4; have h2 := h2.below hb4
  go_wp2_with fail
  refine (iszero_c h3.sl (by omega)).mono ?_; rintro e w5 ⟨rfl, rfl⟩
  go_wp2_with fail
  refine (jdet_c hd hs hx hX).mono ?_; rintro e w6 ⟨rfl, hb6⟩
  have hs := hs.below hb6; have hx := hx.below hb6; have d0 := kept hb6 d0; have d1 := kept hb6 d1; have e0 := kept hb6 e0; have e1 := kept hb6 e1; have h1 := h1.below hb6; have h2 := h2.below hb6; have h3 := h3.below hb6
  rw [<- HQ.out]
  go_wp2_with fail
  go_ret
  exact ⟨by rw [HR.out]; rfl, bwT⟩

def RJordanRank1 (p : Int) (st : List Int) (X : Her) : Int := chkH p st [X]
def RJordanRank0 (p : Int) (st : List Int) (X : Her) : Int := if chkH p st [X] = 0 then rankH p st X else 0
theorem iJordanRank_c {p0 : Int} {x0 : Value} {st0 : List Int} {x1 : Value} {X1 : Her} {w : World} (hx0 : El w x0 st0) (hm0 : st0.length <= 1048576) (hx1 : Hv w x1 X1) (hz1 : Hsz X1) :
  Calls Tryz.prog 15 #[.agg #[.int .i64 p0, x0], x1] w fun e w' => e = .returned (.tuple #[.int .i64 (RJordanRank0 p0 st0 X1), .int .i64 (RJordanRank1 p0 st0 X1)]) /\ Below w.heap.size w w' := by
 obtain ⟨a0, c0, rfl, _⟩ := id hx0.op
 obtain ⟨dv1, uv1, rfl, hd1_, hu1_⟩ := id hx1; obtain ⟨a1, c1, rfl, _⟩ := id hd1_.op; obtain ⟨b1, e1, rfl, _⟩ := id hu1_; clear hd1_ hu1_
 obtain ⟨W, hW⟩ : ∃ W, W = (((w.alloc (.cells #[.int .i64 p0, .slice a0 st0.length c0] 26)).alloc (.cells #[.slice a1 X1.dg.length c1, .slice b1 X1.up.length e1] 29)).alloc (.cells #[.slice a1 X1.dg.length c1, .slice b1 X1.up.length e1] 29)) := ⟨_, rfl⟩
 have hbW : Below w.heap.size w W := by rw [hW]; exact bwT
 have hx0 := hx0.below hbW
 have hx1 := hx1.below hbW
 have d00 : W.cell? ⟨w.heap.size, 0, none⟩ = some (.int .i64 p0) := by rw [hW]; simp [go_sem]
 have d01 : W.cell? ⟨w.heap.size, 1, none⟩ = some (.slice a0 st0.length c0) := by rw [hW]; simp [go_sem]
 have d10 : W.cell? ⟨w.heap.size + 1, 0, none⟩ = some (.slice a1 X1.dg.length c1) := by rw [hW]; simp [go_sem]
 have d11 : W.cell? ⟨w.heap.size + 1, 1, none⟩ = some (.slice b1 X1.up.length e1) := by rw [hW]; simp [go_sem]
 have gl : Lh W (.slice (some ⟨w.heap.size + 1 + 1, 0, none⟩) 1 1) [X1] := Lh.one hx1 (by rw [hW]; simp [go_sem]) (by rw [hW]; simp [go_sem])
 have hcon := chkh_c (p := p0) hx0 hm0 gl (by intro X hX; simp at hX; subst hX; exact hz1) (by simp)
 rw [hW] at hcon
 by_cases h0 : chkH p0 st0 [X1] = 0
 ·rw [h0] at hcon
  obtain ⟨hd, hall⟩ := chkH_pos h0
  have hX1 : isH p0 (sz st0.length) X1 = true := by simp at hall; exact hall
  rw [show RJordanRank0 p0 st0 X1 = rankH p0 st0 X1 from if_pos h0, show RJordanRank1 p0 st0 X1 = 0 from h0]
  clear hall
  go_enter Tryz.func15, Tryz.ntmps15
  go_wp2_with fail
  refine hcon.mono ?_; rintro e w1 ⟨rfl, hb1⟩
  rw [<- hW] at hb1
  clear hW hcon
  have hx0 := hx0.below hb1; have hx1 := hx1.below hb1; have d00 := kept hb1 d00; have d01 := kept hb1 d01; have d10 := kept hb1 d10; have d11 := kept hb1 d11
  go_wp2_with fail
  refine (rank_c hd hx0 hx1 hX1).mono ?_; rintro e w22 ⟨rfl, hb22⟩
  have hx0 := hx0.below hb22; have hx1 := hx1.below hb22; have d00 := kept hb22 d00; have d01 := kept hb22 d01; have d10 := kept hb22 d10; have d11 := kept hb22 d11
  go_wp2_with fail
  go_ret2
  exact ⟨rfl, bwT⟩
 ·rw [show RJordanRank0 p0 st0 X1 = 0 from if_neg h0, show RJordanRank1 p0 st0 X1 = chkH p0 st0 [X1] from rfl]
  obtain ⟨k, hk⟩ : ∃ k, k = chkH p0 st0 [X1] := ⟨_, rfl⟩
  rw [<- hk] at h0 hcon ⊢
  clear hk
  have hne : (k == 0) = false := by simpa using h0
  go_enter Tryz.func15, Tryz.ntmps15
  go_wp2_with fail
  refine hcon.mono ?_; rintro e w1 ⟨rfl, hb1⟩
  rw [<- hW] at hb1
  clear hW hcon
  go_wp2_with fail
  go_ret2
  exact ⟨rfl, bwT⟩
end Go.Proofs.YtilgbekffbphgaaGreat
