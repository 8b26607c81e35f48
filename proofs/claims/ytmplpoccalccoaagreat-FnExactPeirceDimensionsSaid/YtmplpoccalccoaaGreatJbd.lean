/- Texts joined for a claim: HcV, HcW. -/
import Derived.Test.YtmplpoccalccoaaGreatJbc
/-
  Equality of matrices, idempotents and ranks.
-/
namespace Go.Proofs.YtmplpoccalccoaaGreat
open Go.RowKit

def sameB (X Y : Her) : Bool := decide (numsH X = numsH Y)
def idemH (p : Int) (st : List Int) (E : Her) : Bool := sameB (jordanH p st E E) E
theorem nums_lt {p : Int} {n : Nat} {X : Her} (h : isH p n X = true) (hn : n ≤ 8) : (numsH X).length ≤ 1000 := by rw [nums_len h]; omega
theorem samei_c {p : Int} {n : Nat} {x y : Value} {X Y : Her} {w : World} (hx : Hv w x X) (hX : isH p n X = true) (hy : Hv w y Y) (hY : isH p n Y = true) (hn : 1 ≤ n) (hn2 : n ≤ 8) :
    Calls Tryz.prog 54 #[x, y] w fun e w' => e = .returned (.bool (sameB X Y)) ∧ Below w.heap.size w w' := by
  obtain ⟨dv1, uv1, rfl, hd1, hu1⟩ := id hx; obtain ⟨a1, c1, rfl, _⟩ := id hd1.op; obtain ⟨b1, k1, rfl, _⟩ := id hu1
  obtain ⟨dv2, uv2, rfl, hd2, hu2⟩ := id hy; obtain ⟨a2, c2, rfl, _⟩ := id hd2.op; obtain ⟨b2, k2, rfl, _⟩ := id hu2
  have l1 := nums_lt hX hn2
  have l2 := nums_lt hY hn2
  unfold sameB
  go_enter Tryz.func54, Tryz.ntmps54
  have hb0 : Below w.heap.size w ((w.alloc (.cells #[.slice a1 X.dg.length c1, .slice b1 X.up.length k1] 34)).alloc (.cells #[.slice a2 Y.dg.length c2, .slice b2 Y.up.length k2] 34)) := (by repeat (first | exact Below.refl _ _ | apply blw_drew | apply blw_alloc | (refine blw_set ?_ (by first | omega | (simp; done) | (simp; omega)) _) | refine below_chain ?_ (by assumption)))
  have hx := hx.below hb0; have hy := hy.below hb0
  have e0 : ((w.alloc (.cells #[.slice a1 X.dg.length c1, .slice b1 X.up.length k1] 34)).alloc (.cells #[.slice a2 Y.dg.length c2, .slice b2 Y.up.length k2] 34)).cell? ⟨w.heap.size, 0, none⟩ = some (.slice a1 X.dg.length c1) := by simp [go_sem]
  have e1 : ((w.alloc (.cells #[.slice a1 X.dg.length c1, .slice b1 X.up.length k1] 34)).alloc (.cells #[.slice a2 Y.dg.length c2, .slice b2 Y.up.length k2] 34)).cell? ⟨w.heap.size, 1, none⟩ = some (.slice b1 X.up.length k1) := by simp [go_sem]
  have f0 : ((w.alloc (.cells #[.slice a1 X.dg.length c1, .slice b1 X.up.length k1] 34)).alloc (.cells #[.slice a2 Y.dg.length c2, .slice b2 Y.up.length k2] 34)).cell? ⟨w.heap.size + 1, 0, none⟩ = some (.slice a2 Y.dg.length c2) := by simp [go_sem]
  have f1 : ((w.alloc (.cells #[.slice a1 X.dg.length c1, .slice b1 X.up.length k1] 34)).alloc (.cells #[.slice a2 Y.dg.length c2, .slice b2 Y.up.length k2] 34)).cell? ⟨w.heap.size + 1, 1, none⟩ = some (.slice b2 Y.up.length k2) := by simp [go_sem]
  go_wp2_with fail
  refine region_flow [(false, [(0, 1), (2, 1), (1, 5)]), (false, [(3, 4), (4, 4), (5, 0)])] (by kernel_rfl) ?_
  refine norm_K fun K hK => ?_
  change wpList _ _ _ [_, _, _] _ _
  have hb1 : Below ((w.alloc (.cells #[.slice a1 X.dg.length c1, .slice b1 X.up.length k1] 34)).alloc (.cells #[.slice a2 Y.dg.length c2, .slice b2 Y.up.length k2] 34)).heap.size ((w.alloc (.cells #[.slice a1 X.dg.length c1, .slice b1 X.up.length k1] 34)).alloc (.cells #[.slice a2 Y.dg.length c2, .slice b2 Y.up.length k2] 34)) ((w.alloc (.cells #[.slice a1 X.dg.length c1, .slice b1 X.up.length k1] 34)).alloc (.cells #[.slice a2 Y.dg.length c2, .slice b2 Y.up.length k2] 34)).drew := (by repeat (first | exact Below.refl _ _ | apply blw_drew | apply blw_alloc | (refine blw_set ?_ (by first | omega | (simp; done) | (simp; omega)) _) | refine below_chain ?_ (by assumption)))
  have hx := hx.below hb1; have hy := hy.below hb1; have e0 := kept hb1 e0; have e1 := kept hb1 e1; have f0 := kept hb1 f0; have f1 := kept hb1 f1
  generalize ((w.alloc (.cells #[.slice a1 X.dg.length c1, .slice b1 X.up.length k1] 34)).alloc (.cells #[.slice a2 Y.dg.length c2, .slice b2 Y.up.length k2] 34)).drew = wq at *
  go_wp2_with fail
  refine (nums_c hx hX hn hn2).mono ?_; rintro e w2 ⟨v1, rfl, h1, hb2⟩
  have hx := hx.below hb2; have hy := hy.below hb2; have e0 := kept hb2 e0; have e1 := kept hb2 e1; have f0 := kept hb2 f0; have f1 := kept hb2 f1
  go_wp2_with fail
  have hz0 : Below wq.heap.size wq w2 := (by repeat (first | exact Below.refl _ _ | apply blw_drew | apply blw_alloc | (refine blw_set ?_ (by first | omega | (simp; done) | (simp; omega)) _) | refine below_chain ?_ (by assumption)))
  first | (refine hK _ _ ⟨hz0, ?_⟩; clear hK K) | refine ⟨hz0, ?_⟩
  clear hz0
  refine norm_K fun K hK => ?_
  change wpList _ _ _ [_, _, _] _ _
  go_wp2_with fail
  refine (nums_c hy hY hn hn2).mono ?_; rintro e w3 ⟨v2, rfl, h2, hb3⟩
  have hx := hx.below hb3; have hy := hy.below hb3; have e0 := kept hb3 e0; have e1 := kept hb3 e1; have f0 := kept hb3 f0; have f1 := kept hb3 f1; have h1 := h1.below hb3
  go_wp2_with fail
  refine (equal_c h1.sl h2.sl (by omega) (by omega)).mono ?_; rintro e w4 ⟨rfl, hb4⟩
  have hx := hx.below hb4; have hy := hy.below hb4; have e0 := kept hb4 e0; have e1 := kept hb4 e1; have f0 := kept hb4 f0; have f1 := kept hb4 f1; have h1 := h1.below hb4; have h2 := h2.below hb4
  go_wp2_with fail
  first | (refine hK _ _ ⟨rfl, ?_⟩; clear hK K) | refine ⟨rfl, ?_⟩
  go_wp2_with fail
  go_ret
  exact ⟨rfl, (by repeat (first | exact Below.refl _ _ | apply blw_drew | apply blw_alloc | (refine blw_set ?_ (by first | omega | (simp; done) | (simp; omega)) _) | refine below_chain ?_ (by assumption)))⟩
theorem idem_c {p : Int} {s x : Value} {st : List Int} {X : Her} {w : World} (hd : Dok p st) (hs : El w s st) (hx : Hv w x X) (hX : isH p (sz st.length) X = true) :
    Calls Tryz.prog 28 #[.agg #[.int .i64 p, s], x] w fun e w' => e = .returned (.bool (idemH p st X)) ∧ Below w.heap.size w w' := by
  have hp1 := hd.hp.lo
  have hsz := sz_le hd
  have hJ := jordanH_is (p := p) (by omega) hX hX
  obtain ⟨a0, c0, rfl, _⟩ := id hs.op
  obtain ⟨dv1, uv1, rfl, hd1, hu1⟩ := id hx; obtain ⟨a1, c1, rfl, _⟩ := id hd1.op; obtain ⟨b1, k1, rfl, _⟩ := id hu1
  unfold idemH
  go_enter Tryz.func28, Tryz.ntmps28
  have hb0 : Below w.heap.size w ((w.alloc (.cells #[.int .i64 p, .slice a0 st.length c0] 32)).alloc (.cells #[.slice a1 X.dg.length c1, .slice b1 X.up.length k1] 34)) := (by repeat (first | exact Below.refl _ _ | apply blw_drew | apply blw_alloc | (refine blw_set ?_ (by first | omega | (simp; done) | (simp; omega)) _) | refine below_chain ?_ (by assumption)))
  have hs := hs.below hb0; have hx := hx.below hb0
  have d0 : ((w.alloc (.cells #[.int .i64 p, .slice a0 st.length c0] 32)).alloc (.cells #[.slice a1 X.dg.length c1, .slice b1 X.up.length k1] 34)).cell? ⟨w.heap.size, 0, none⟩ = some (.int .i64 p) := by simp [go_sem]
  have d1 : ((w.alloc (.cells #[.int .i64 p, .slice a0 st.length c0] 32)).alloc (.cells #[.slice a1 X.dg.length c1, .slice b1 X.up.length k1] 34)).cell? ⟨w.heap.size, 1, none⟩ = some (.slice a0 st.length c0) := by simp [go_sem]
  have e0 : ((w.alloc (.cells #[.int .i64 p, .slice a0 st.length c0] 32)).alloc (.cells #[.slice a1 X.dg.length c1, .slice b1 X.up.length k1] 34)).cell? ⟨w.heap.size + 1, 0, none⟩ = some (.slice a1 X.dg.length c1) := by simp [go_sem]
  have e1 : ((w.alloc (.cells #[.int .i64 p, .slice a0 st.length c0] 32)).alloc (.cells #[.slice a1 X.dg.length c1, .slice b1 X.up.length k1] 34)).cell? ⟨w.heap.size + 1, 1, none⟩ = some (.slice b1 X.up.length k1) := by simp [go_sem]
  go_wp2_with fail
  refine region_flow [(false, [(0, 1), (1, 1), (2, 1), (4, 1), (3, 5)]), (false, [(5, 4), (6, 0)])] (by kernel_rfl) ?_
  refine norm_K fun K hK => ?_
  change wpList _ _ _ [_, _, _, _, _] _ _
  have hb1 : Below ((w.alloc (.cells #[.int .i64 p, .slice a0 st.length c0] 32)).alloc (.cells #[.slice a1 X.dg.length c1, .slice b1 X.up.length k1] 34)).heap.size ((w.alloc (.cells #[.int .i64 p, .slice a0 st.length c0] 32)).alloc (.cells #[.slice a1 X.dg.length c1, .slice b1 X.up.length k1] 34)) ((w.alloc (.cells #[.int .i64 p, .slice a0 st.length c0] 32)).alloc (.cells #[.slice a1 X.dg.length c1, .slice b1 X.up.length k1] 34)).drew := (by repeat (first | exact Below.refl _ _ | apply blw_drew | apply blw_alloc | (refine blw_set ?_ (by first | omega | (simp; done) | (simp; omega)) _) | refine below_chain ?_ (by assumption)))
  have hs := hs.below hb1; have hx := hx.below hb1; have d0 := kept hb1 d0; have d1 := kept hb1 d1; have e0 := kept hb1 e0; have e1 := kept hb1 e1
  generalize ((w.alloc (.cells #[.int .i64 p, .slice a0 st.length c0] 32)).alloc (.cells #[.slice a1 X.dg.length c1, .slice b1 X.up.length k1] 34)).drew = wq at *
  go_wp2_with fail
  refine (jordan_c hd hs hx hX hx hX).mono ?_; rintro e w2 ⟨v1, rfl, h1, hb2⟩
  have hs := hs.below hb2; have hx := hx.below hb2; have d0 := kept hb2 d0; have d1 := kept hb2 d1; have e0 := kept hb2 e0; have e1 := kept hb2 e1
  go_wp2_with fail
  have hz0 : Below wq.heap.size wq w2 := (by repeat (first | exact Below.refl _ _ | apply blw_drew | apply blw_alloc | (refine blw_set ?_ (by first | omega | (simp; done) | (simp; omega)) _) | refine below_chain ?_ (by assumption)))
  first | (refine hK _ _ ⟨hz0, ?_⟩; clear hK K) | refine ⟨hz0, ?_⟩
  clear hz0
  refine norm_K fun K hK => ?_
  change wpList _ _ _ [_, _] _ _
  go_wp2_with fail
  refine (samei_c h1.hv hJ hx hX hsz.1 hsz.2).mono ?_; rintro e w3 ⟨rfl, hb3⟩
  have hs := hs.below hb3; have hx := hx.below hb3; have d0 := kept hb3 d0; have d1 := kept hb3 d1; have e0 := kept hb3 e0; have e1 := kept hb3 e1; have h1 := h1.below hb3
  go_wp2_with fail
  first | (refine hK _ _ ⟨rfl, ?_⟩; clear hK K) | refine ⟨rfl, ?_⟩
  go_wp2_with fail
  go_ret
  exact ⟨rfl, (by repeat (first | exact Below.refl _ _ | apply blw_drew | apply blw_alloc | (refine blw_set ?_ (by first | omega | (simp; done) | (simp; omega)) _) | refine below_chain ?_ (by assumption)))⟩
end Go.Proofs.YtmplpoccalccoaaGreat
/-
  The reference's zero, rank, equality and idempotents.
-/
namespace Go.Proofs.YtmplpoccalccoaaGreat
open Go.RowKit

end Go.Proofs.YtmplpoccalccoaaGreat
