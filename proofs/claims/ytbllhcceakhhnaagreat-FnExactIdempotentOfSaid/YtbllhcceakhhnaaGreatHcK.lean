/-
  The pairing of hermitian matrices.
-/
import Derived.Test.YtbllhcceakhhnaaGreatHcJ
namespace Go.Proofs.YtbllhcceakhhnaaGreat
open Go.RowKit

theorem jordanH_is {p : Int} {st : List Int} {X Y : Her} (hp : 2 ≤ p) (hX : isH p (sz st.length) X = true) (hY : isH p (sz st.length) Y = true) : isH p (sz st.length) (jordanH p st X Y) = true :=
  isH_mk ((halfH_ev hp hX hY (i := 0) (j := 0) (by omega) (by omega)).2.g0 (by omega) 0) ((halfH_ev hp hX hY (i := 1) (j := 1) (by omega) (by omega)).2.g0 (by omega) 0) ((halfH_ev hp hX hY (i := 2) (j := 2) (by omega) (by omega)).2.g0 (by omega) 0)
    (halfH_ev hp hX hY (by omega) (by omega)) (halfH_ev hp hX hY (by omega) (by omega)) (halfH_ev hp hX hY (by omega) (by omega))
def pairH (p : Int) (st : List Int) (X Y : Her) : Int := traceH p (jordanH p st X Y)
set_option maxRecDepth 100000 in
theorem pairing_c {p : Int} {s x y : Value} {st : List Int} {X Y : Her} {w : World} (hd : Dok p st) (hs : El w s st) (hx : Hv w x X) (hX : isH p (sz st.length) X = true) (hy : Hv w y Y) (hY : isH p (sz st.length) Y = true) :
    Calls Tryz.prog 37 #[.agg #[.int .i64 p, s], x, y] w fun e w' => e = .returned (.int .i64 (pairH p st X Y)) ∧ Below w.heap.size w w' := by
  have hp1 := hd.hp.lo
  have hJ := jordanH_is (p := p) (by omega) hX hY
  obtain ⟨a0, c0, rfl, _⟩ := id hs.op
  obtain ⟨dv1, uv1, rfl, hd1_, hu1_⟩ := id hx; obtain ⟨a1, c1, rfl, _⟩ := id hd1_.op; obtain ⟨b1, k1, rfl, _⟩ := id hu1_; clear hd1_ hu1_
  obtain ⟨dv2, uv2, rfl, hd2_, hu2_⟩ := id hy; obtain ⟨a2, c2, rfl, _⟩ := id hd2_.op; obtain ⟨b2, k2, rfl, _⟩ := id hu2_; clear hd2_ hu2_
  unfold pairH
  go_enter Tryz.func37, Tryz.ntmps37
  have hb0 : Below w.heap.size w (((w.alloc (.cells #[.int .i64 p, .slice a0 st.length c0] 32)).alloc (.cells #[.slice a1 X.dg.length c1, .slice b1 X.up.length k1] 34)).alloc (.cells #[.slice a2 Y.dg.length c2, .slice b2 Y.up.length k2] 34)) := (by repeat (first | exact Below.refl _ _ | apply blw_drew | apply blw_alloc | (refine blw_set ?_ (by first | omega | (simp; done) | (simp; omega)) _) | refine below_chain ?_ (by assumption)))
  have hs := hs.below hb0; have hx := hx.below hb0; have hy := hy.below hb0
  have d0 : (((w.alloc (.cells #[.int .i64 p, .slice a0 st.length c0] 32)).alloc (.cells #[.slice a1 X.dg.length c1, .slice b1 X.up.length k1] 34)).alloc (.cells #[.slice a2 Y.dg.length c2, .slice b2 Y.up.length k2] 34)).cell? ⟨w.heap.size, 0, none⟩ = some (.int .i64 p) := by simp [go_sem]
  have d1 : (((w.alloc (.cells #[.int .i64 p, .slice a0 st.length c0] 32)).alloc (.cells #[.slice a1 X.dg.length c1, .slice b1 X.up.length k1] 34)).alloc (.cells #[.slice a2 Y.dg.length c2, .slice b2 Y.up.length k2] 34)).cell? ⟨w.heap.size, 1, none⟩ = some (.slice a0 st.length c0) := by simp [go_sem]
  have e0 : (((w.alloc (.cells #[.int .i64 p, .slice a0 st.length c0] 32)).alloc (.cells #[.slice a1 X.dg.length c1, .slice b1 X.up.length k1] 34)).alloc (.cells #[.slice a2 Y.dg.length c2, .slice b2 Y.up.length k2] 34)).cell? ⟨w.heap.size + 1, 0, none⟩ = some (.slice a1 X.dg.length c1) := by simp [go_sem]
  have e1 : (((w.alloc (.cells #[.int .i64 p, .slice a0 st.length c0] 32)).alloc (.cells #[.slice a1 X.dg.length c1, .slice b1 X.up.length k1] 34)).alloc (.cells #[.slice a2 Y.dg.length c2, .slice b2 Y.up.length k2] 34)).cell? ⟨w.heap.size + 1, 1, none⟩ = some (.slice b1 X.up.length k1) := by simp [go_sem]
  have f0 : (((w.alloc (.cells #[.int .i64 p, .slice a0 st.length c0] 32)).alloc (.cells #[.slice a1 X.dg.length c1, .slice b1 X.up.length k1] 34)).alloc (.cells #[.slice a2 Y.dg.length c2, .slice b2 Y.up.length k2] 34)).cell? ⟨w.heap.size + 1 + 1, 0, none⟩ = some (.slice a2 Y.dg.length c2) := by simp [go_sem]
  have f1 : (((w.alloc (.cells #[.int .i64 p, .slice a0 st.length c0] 32)).alloc (.cells #[.slice a1 X.dg.length c1, .slice b1 X.up.length k1] 34)).alloc (.cells #[.slice a2 Y.dg.length c2, .slice b2 Y.up.length k2] 34)).cell? ⟨w.heap.size + 1 + 1, 1, none⟩ = some (.slice b2 Y.up.length k2) := by simp [go_sem]
  go_wp2_with fail
  refine region_flow [(false, [(0, 1), (1, 1), (2, 1), (3, 1), (4, 5)]), (false, [(5, 4), (6, 0)])] (by kernel_rfl) ?_
  refine norm_K fun K hK => ?_
  change wpList _ _ _ [_, _, _, _, _] _ _
  have hb1 : Below (((w.alloc (.cells #[.int .i64 p, .slice a0 st.length c0] 32)).alloc (.cells #[.slice a1 X.dg.length c1, .slice b1 X.up.length k1] 34)).alloc (.cells #[.slice a2 Y.dg.length c2, .slice b2 Y.up.length k2] 34)).heap.size (((w.alloc (.cells #[.int .i64 p, .slice a0 st.length c0] 32)).alloc (.cells #[.slice a1 X.dg.length c1, .slice b1 X.up.length k1] 34)).alloc (.cells #[.slice a2 Y.dg.length c2, .slice b2 Y.up.length k2] 34)) (((w.alloc (.cells #[.int .i64 p, .slice a0 st.length c0] 32)).alloc (.cells #[.slice a1 X.dg.length c1, .slice b1 X.up.length k1] 34)).alloc (.cells #[.slice a2 Y.dg.length c2, .slice b2 Y.up.length k2] 34)).drew := (by repeat (first | exact Below.refl _ _ | apply blw_drew | apply blw_alloc | (refine blw_set ?_ (by first | omega | (simp; done) | (simp; omega)) _) | refine below_chain ?_ (by assumption)))
  have hs := hs.below hb1; have hx := hx.below hb1; have hy := hy.below hb1; have d0 := kept hb1 d0; have d1 := kept hb1 d1; have e0 := kept hb1 e0; have e1 := kept hb1 e1; have f0 := kept hb1 f0; have f1 := kept hb1 f1
  go_wp2_with fail
  refine (jordan_c hd hs hx hX hy hY).mono ?_; rintro e w2 ⟨v, rfl, hv, hb2⟩
  have hs := hs.below hb2; have hx := hx.below hb2; have hy := hy.below hb2; have d0 := kept hb2 d0; have d1 := kept hb2 d1; have e0 := kept hb2 e0; have e1 := kept hb2 e1; have f0 := kept hb2 f0; have f1 := kept hb2 f1
  go_wp2_with fail
  have hz0 : Below (((w.alloc (.cells #[.int .i64 p, .slice a0 st.length c0] 32)).alloc (.cells #[.slice a1 X.dg.length c1, .slice b1 X.up.length k1] 34)).alloc (.cells #[.slice a2 Y.dg.length c2, .slice b2 Y.up.length k2] 34)).drew.heap.size (((w.alloc (.cells #[.int .i64 p, .slice a0 st.length c0] 32)).alloc (.cells #[.slice a1 X.dg.length c1, .slice b1 X.up.length k1] 34)).alloc (.cells #[.slice a2 Y.dg.length c2, .slice b2 Y.up.length k2] 34)).drew w2 := (by repeat (first | exact Below.refl _ _ | apply blw_drew | apply blw_alloc | (refine blw_set ?_ (by first | omega | (simp; done) | (simp; omega)) _) | refine below_chain ?_ (by assumption)))
  first | (refine hK _ _ ⟨hz0, ?_⟩; clear hK K) | refine ⟨hz0, ?_⟩
  clear hz0
  refine norm_K fun K hK => ?_
  change wpList _ _ _ [_, _] _ _
  go_wp2_with fail
  refine (jtrace_c hd hs hv.hv hJ).mono ?_; rintro e w3 ⟨rfl, hb3⟩
  have hs := hs.below hb3; have hx := hx.below hb3; have hy := hy.below hb3; have d0 := kept hb3 d0; have d1 := kept hb3 d1; have e0 := kept hb3 e0; have e1 := kept hb3 e1; have f0 := kept hb3 f0; have f1 := kept hb3 f1; have hv := hv.below hb3
  go_wp2_with fail
  first | (refine hK _ _ ⟨rfl, ?_⟩; clear hK K) | refine ⟨rfl, ?_⟩
  go_wp2_with fail
  go_ret
  exact ⟨rfl, (by repeat (first | exact Below.refl _ _ | apply blw_drew | apply blw_alloc | (refine blw_set ?_ (by first | omega | (simp; done) | (simp; omega)) _) | refine below_chain ?_ (by assumption)))⟩
end Go.Proofs.YtbllhcceakhhnaaGreat
