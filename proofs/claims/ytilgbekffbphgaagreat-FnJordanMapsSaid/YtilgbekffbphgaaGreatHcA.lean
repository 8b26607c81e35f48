import Derived.Test.YtilgbekffbphgaaGreatJah
namespace Go.Proofs.YtilgbekffbphgaaGreat
open Go.RowKit
theorem Dok.is {p : Int} {st : List Int} (h : Dok p st) : isD p st = true := isD_iff.2 ⟨h.hp, by have := h.hl; omega, h.hs⟩
structure Hsz (X : Her) : Prop where
 h1 : X.dg.length <= 1048576
 h2 : X.up.length <= 1048576
 h3 : ∀ xs ∈ X.up, xs.length <= 1048576
theorem isH_dl {p : Int} {n : Nat} {X : Her} (h : ¬ X.dg.length = 3) : isH p n X = false := by unfold isH; simp [h]
theorem isH_df {p : Int} {n : Nat} {X : Her} (h : isL p X.dg = false) : isH p n X = false := by unfold isH; simp [h]
theorem isH_ul {p : Int} {n : Nat} {X : Her} (h : ¬ X.up.length = 3) : isH p n X = false := by unfold isH; simp [h]
theorem isH_ua {p : Int} {n : Nat} {X : Her} (h1 : X.dg.length = 3) (h2 : isL p X.dg = true) (h3 : X.up.length = 3) : isH p n X = X.up.all (isE p n) := by unfold isH; simp [h1, h2, h3]
theorem isher_c {p : Int} {s x : Value} {st : List Int} {X : Her} {w : World} (hd : Dok p st) (hs : El w s st) (hx : Hv w x X) (hz : Hsz X) :
  Calls Tryz.prog 52 #[.agg #[.int .i64 p, s], x] w fun e w' => e = .returned (.bool (isH p (sz st.length) X)) /\ Below w.heap.size w w' := by
 have hp1 := hd.hp.lo
 have hp2 := hd.hp.hi
 have hl3 := hd.hl
 have hdi := hd.is
 obtain ⟨d, u, rfl, hxd, hxu⟩ := hx
 obtain ⟨a, c, rfl, _⟩ := id hs.op
 obtain ⟨ad, cd, rfl, _⟩ := id hxd.op
 obtain ⟨au, cu, rfl, _⟩ := id hxu
 by_cases h1 : X.dg.length = 3
 case neg =>
  have HN := Lib.hid (isH_dl (p := p) (n := sz st.length) h1)
  have hn : ((X.dg.length : Int) == 3) = false := by rw [beq_eq_false_iff_ne]; omega
  go_enter Tryz.func52, Tryz.ntmps52
  have hb0 : Below w.heap.size w ((w.alloc (.cells #[.int .i64 p, .slice a st.length c] 26)).alloc (.cells #[.slice ad X.dg.length cd, .slice au X.up.length cu] 29)) := bwT
  have hs := hs.below hb0
  have d0 : ((w.alloc (.cells #[.int .i64 p, .slice a st.length c] 26)).alloc (.cells #[.slice ad X.dg.length cd, .slice au X.up.length cu] 29)).cell? ⟨w.heap.size, 0, none⟩ = some (.int .i64 p) := by simp [go_sem]
  have d1 : ((w.alloc (.cells #[.int .i64 p, .slice a st.length c] 26)).alloc (.cells #[.slice ad X.dg.length cd, .slice au X.up.length cu] 29)).cell? ⟨w.heap.size, 1, none⟩ = some (.slice a st.length c) := by simp [go_sem]
  have e0 : ((w.alloc (.cells #[.int .i64 p, .slice a st.length c] 26)).alloc (.cells #[.slice ad X.dg.length cd, .slice au X.up.length cu] 29)).cell? ⟨w.heap.size + 1, 0, none⟩ = some (.slice ad X.dg.length cd) := by simp [go_sem]
  have e1 : ((w.alloc (.cells #[.int .i64 p, .slice a st.length c] 26)).alloc (.cells #[.slice ad X.dg.length cd, .slice au X.up.length cu] 29)).cell? ⟨w.heap.size + 1, 1, none⟩ = some (.slice au X.up.length cu) := by simp [go_sem]
  go_wp2_with fail
  refine region_flow [(false, [(0, 0), (1, 1), (2, 0), (3, 0), (4, 0), (5, 1), (7, 0), (8, 1), (6, 5)]), (false, [(9, 4), (10, 0), (11, 0), (12, 0), (13, 1), (14, 0), (15, 0), (16, 0), (17, 0), (18, 1), (19, 0), (20, 1), (21, 4), (22, 0), (23, 0), (24, 0)])] (by kernel_rfl) ?_
  refine norm_K fun K hK => ?_
  change wpList _ _ _ [_, _, _, _, _, _, _, _, _] _ _
  go_wp2_with fail
  first | (refine hK _ _ ⟨Below.refl _ _, ?_⟩; clear hK K) | refine ⟨Below.refl _ _, ?_⟩
  refine norm_K fun K hK => ?_
  change wpList _ _ _ [_, _, _, _, _, _, _, _, _, _, _, _, _, _, _, _] _ _
  go_wp2_with fail
  first | (refine hK _ _ ⟨rfl, ?_⟩; clear hK K) | refine ⟨rfl, ?_⟩
  go_wp2_with fail
  go_ret
  exact ⟨by rw [HN.out]; rfl, bwT⟩
 have hn : ((X.dg.length : Int) == 3) = true := by rw [beq_iff_eq]; omega
 cases h2 : isL p X.dg
 ·have HN := Lib.hid (isH_df (n := sz st.length) h2)
  clear h1
  go_enter Tryz.func52, Tryz.ntmps52
  have hb0 : Below w.heap.size w ((w.alloc (.cells #[.int .i64 p, .slice a st.length c] 26)).alloc (.cells #[.slice ad X.dg.length cd, .slice au X.up.length cu] 29)) := bwT
  have hs := hs.below hb0; have hxd := hxd.below hb0
  have d0 : ((w.alloc (.cells #[.int .i64 p, .slice a st.length c] 26)).alloc (.cells #[.slice ad X.dg.length cd, .slice au X.up.length cu] 29)).cell? ⟨w.heap.size, 0, none⟩ = some (.int .i64 p) := by simp [go_sem]
  have d1 : ((w.alloc (.cells #[.int .i64 p, .slice a st.length c] 26)).alloc (.cells #[.slice ad X.dg.length cd, .slice au X.up.length cu] 29)).cell? ⟨w.heap.size, 1, none⟩ = some (.slice a st.length c) := by simp [go_sem]
  have e0 : ((w.alloc (.cells #[.int .i64 p, .slice a st.length c] 26)).alloc (.cells #[.slice ad X.dg.length cd, .slice au X.up.length cu] 29)).cell? ⟨w.heap.size + 1, 0, none⟩ = some (.slice ad X.dg.length cd) := by simp [go_sem]
  have e1 : ((w.alloc (.cells #[.int .i64 p, .slice a st.length c] 26)).alloc (.cells #[.slice ad X.dg.length cd, .slice au X.up.length cu] 29)).cell? ⟨w.heap.size + 1, 1, none⟩ = some (.slice au X.up.length cu) := by simp [go_sem]
  go_wp2_with fail
  refine region_flow [(false, [(0, 0), (1, 1), (2, 0), (3, 0), (4, 0), (5, 1), (7, 0), (8, 1), (6, 5)]), (false, [(9, 4), (10, 0), (11, 0), (12, 0), (13, 1), (14, 0), (15, 0), (16, 0), (17, 0), (18, 1), (19, 0), (20, 1), (21, 4), (22, 0), (23, 0), (24, 0)])] (by kernel_rfl) ?_
  refine norm_K fun K hK => ?_
  change wpList _ _ _ [_, _, _, _, _, _, _, _, _] _ _
  have hb1 : Below ((w.alloc (.cells #[.int .i64 p, .slice a st.length c] 26)).alloc (.cells #[.slice ad X.dg.length cd, .slice au X.up.length cu] 29)).heap.size ((w.alloc (.cells #[.int .i64 p, .slice a st.length c] 26)).alloc (.cells #[.slice ad X.dg.length cd, .slice au X.up.length cu] 29)) ((w.alloc (.cells #[.int .i64 p, .slice a st.length c] 26)).alloc (.cells #[.slice ad X.dg.length cd, .slice au X.up.length cu] 29)).drew := bwT
  have hs := hs.below hb1; have hxd := hxd.below hb1; have d0 := kept hb1 d0; have d1 := kept hb1 d1; have e0 := kept hb1 e0; have e1 := kept hb1 e1
  go_wp2_with fail
  refine (dfield_c).mono ?_; rintro e w2 ⟨rfl, hb2⟩
  have hs := hs.below hb2; have hxd := hxd.below hb2; have d0 := kept hb2 d0; have d1 := kept hb2 d1; have e0 := kept hb2 e0; have e1 := kept hb2 e1
  go_wp2_with fail
  have hz0 : Below ((w.alloc (.cells #[.int .i64 p, .slice a st.length c] 26)).alloc (.cells #[.slice ad X.dg.length cd, .slice au X.up.length cu] 29)).drew.heap.size ((w.alloc (.cells #[.int .i64 p, .slice a st.length c] 26)).alloc (.cells #[.slice ad X.dg.length cd, .slice au X.up.length cu] 29)).drew w2 := bwT
  first | (refine hK _ _ ⟨hz0, ?_⟩; clear hK K) | refine ⟨hz0, ?_⟩
  clear hz0
  refine norm_K fun K hK => ?_
  change wpList _ _ _ [_, _, _, _, _, _, _, _, _, _, _, _, _, _, _, _] _ _
  go_wp2_with fail
  refine (is_c (by omega) (by omega) hxd.sl hz.h1).mono ?_; rintro e w3 ⟨rfl, rfl⟩
  simp only [h2]
  go_wp2_with fail
  first | (refine hK _ _ ⟨rfl, ?_⟩; clear hK K) | refine ⟨rfl, ?_⟩
  go_wp2_with fail
  go_ret
  exact ⟨by rw [HN.out]; rfl, bwT⟩
 by_cases h3 : X.up.length = 3
 case neg =>
  have HN := Lib.hid (isH_ul (p := p) (n := sz st.length) h3)
  have hn2 : ((X.up.length : Int) == 3) = false := by rw [beq_eq_false_iff_ne]; omega
  clear h1
  go_enter Tryz.func52, Tryz.ntmps52
  have hb0 : Below w.heap.size w ((w.alloc (.cells #[.int .i64 p, .slice a st.length c] 26)).alloc (.cells #[.slice ad X.dg.length cd, .slice au X.up.length cu] 29)) := bwT
  have hs := hs.below hb0; have hxd := hxd.below hb0
  have d0 : ((w.alloc (.cells #[.int .i64 p, .slice a st.length c] 26)).alloc (.cells #[.slice ad X.dg.length cd, .slice au X.up.length cu] 29)).cell? ⟨w.heap.size, 0, none⟩ = some (.int .i64 p) := by simp [go_sem]
  have d1 : ((w.alloc (.cells #[.int .i64 p, .slice a st.length c] 26)).alloc (.cells #[.slice ad X.dg.length cd, .slice au X.up.length cu] 29)).cell? ⟨w.heap.size, 1, none⟩ = some (.slice a st.length c) := by simp [go_sem]
  have e0 : ((w.alloc (.cells #[.int .i64 p, .slice a st.length c] 26)).alloc (.cells #[.slice ad X.dg.length cd, .slice au X.up.length cu] 29)).cell? ⟨w.heap.size + 1, 0, none⟩ = some (.slice ad X.dg.length cd) := by simp [go_sem]
  have e1 : ((w.alloc (.cells #[.int .i64 p, .slice a st.length c] 26)).alloc (.cells #[.slice ad X.dg.length cd, .slice au X.up.length cu] 29)).cell? ⟨w.heap.size + 1, 1, none⟩ = some (.slice au X.up.length cu) := by simp [go_sem]
  go_wp2_with fail
  refine region_flow [(false, [(0, 0), (1, 1), (2, 0), (3, 0), (4, 0), (5, 1), (7, 0), (8, 1), (6, 5)]), (false, [(9, 4), (10, 0), (11, 0), (12, 0), (13, 1), (14, 0), (15, 0), (16, 0), (17, 0), (18, 1), (19, 0), (20, 1), (21, 4), (22, 0), (23, 0), (24, 0)])] (by kernel_rfl) ?_
  refine norm_K fun K hK => ?_
  change wpList _ _ _ [_, _, _, _, _, _, _, _, _] _ _
  have hb1 : Below ((w.alloc (.cells #[.int .i64 p, .slice a st.length c] 26)).alloc (.cells #[.slice ad X.dg.length cd, .slice au X.up.length cu] 29)).heap.size ((w.alloc (.cells #[.int .i64 p, .slice a st.length c] 26)).alloc (.cells #[.slice ad X.dg.length cd, .slice au X.up.length cu] 29)) ((w.alloc (.cells #[.int .i64 p, .slice a st.length c] 26)).alloc (.cells #[.slice ad X.dg.length cd, .slice au X.up.length cu] 29)).drew := bwT
  have hs := hs.below hb1; have hxd := hxd.below hb1; have d0 := kept hb1 d0; have d1 := kept hb1 d1; have e0 := kept hb1 e0; have e1 := kept hb1 e1
  go_wp2_with fail
  refine (dfield_c).mono ?_; rintro e w2 ⟨rfl, hb2⟩
  have hs := hs.below hb2; have hxd := hxd.below hb2; have d0 := kept hb2 d0; have d1 := kept hb2 d1; have e0 := kept hb2 e0; have e1 := kept hb2 e1
  go_wp2_with fail
  have hz0 : Below ((w.alloc (.cells #[.int .i64 p, .slice a st.length c] 26)).alloc (.cells #[.slice ad X.dg.length cd, .slice au X.up.length cu] 29)).drew.heap.size ((w.alloc (.cells #[.int .i64 p, .slice a st.length c] 26)).alloc (.cells #[.slice ad X.dg.length cd, .slice au X.up.length cu] 29)).drew w2 := bwT
  first | (refine hK _ _ ⟨hz0, ?_⟩; clear hK K) | refine ⟨hz0, ?_⟩
  clear hz0
  refine norm_K fun K hK => ?_
  change wpList _ _ _ [_, _, _, _, _, _, _, _, _, _, _, _, _, _, _, _] _ _
  go_wp2_with fail
  refine (is_c (by omega) (by omega) hxd.sl hz.h1).mono ?_; rintro e w3 ⟨rfl, rfl⟩
  simp only [h2]
  go_wp2_with fail
  first | (refine hK _ _ ⟨rfl, ?_⟩; clear hK K) | refine ⟨rfl, ?_⟩
  go_wp2_with fail
  go_ret
  exact ⟨by rw [HN.out]; rfl, bwT⟩
 have hn2 : ((X.up.length : Int) == 3) = true := by rw [beq_iff_eq]; omega
 have HU := Lib.hid (isH_ua (n := sz st.length) h1 h2 h3)
 have hcon := fun W s l (hs : El W s st) (hl : Re W l X.up) => chkel_c (w := W) (p := p) (x := s) (l := l) hs hl (by omega) hz.h2 hz.h3
 have hq : chkE p st X.up = if X.up.all (isE p (sz st.length)) = true then 0 else 2 := by unfold chkE; rw [if_pos hdi]
 clear h1 h3
 cases h4 : X.up.all (isE p (sz st.length))
 all_goals
  have hv : chkE p st X.up = _ := hq
  rw [h4] at hv
  simp only [hv] at hcon
  clear hv hq
  go_enter Tryz.func52, Tryz.ntmps52
  have hb0 : Below w.heap.size w ((w.alloc (.cells #[.int .i64 p, .slice a st.length c] 26)).alloc (.cells #[.slice ad X.dg.length cd, .slice au X.up.length cu] 29)) := bwT
  have hs := hs.below hb0; have hxd := hxd.below hb0; have hxu := hxu.below hb0
  have d0 : ((w.alloc (.cells #[.int .i64 p, .slice a st.length c] 26)).alloc (.cells #[.slice ad X.dg.length cd, .slice au X.up.length cu] 29)).cell? ⟨w.heap.size, 0, none⟩ = some (.int .i64 p) := by simp [go_sem]
  have d1 : ((w.alloc (.cells #[.int .i64 p, .slice a st.length c] 26)).alloc (.cells #[.slice ad X.dg.length cd, .slice au X.up.length cu] 29)).cell? ⟨w.heap.size, 1, none⟩ = some (.slice a st.length c) := by simp [go_sem]
  have e0 : ((w.alloc (.cells #[.int .i64 p, .slice a st.length c] 26)).alloc (.cells #[.slice ad X.dg.length cd, .slice au X.up.length cu] 29)).cell? ⟨w.heap.size + 1, 0, none⟩ = some (.slice ad X.dg.length cd) := by simp [go_sem]
  have e1 : ((w.alloc (.cells #[.int .i64 p, .slice a st.length c] 26)).alloc (.cells #[.slice ad X.dg.length cd, .slice au X.up.length cu] 29)).cell? ⟨w.heap.size + 1, 1, none⟩ = some (.slice au X.up.length cu) := by simp [go_sem]
  go_wp2_with fail
  refine region_flow [(false, [(0, 0), (1, 1), (2, 0), (3, 0), (4, 0), (5, 1), (7, 0), (8, 1), (6, 5)]), (false, [(9, 4), (10, 0), (11, 0), (12, 0), (13, 1), (14, 0), (15, 0), (16, 0), (17, 0), (18, 1), (19, 0), (20, 1), (21, 4), (22, 0), (23, 0), (24, 0)])] (by kernel_rfl) ?_
  refine norm_K fun K hK => ?_
  change wpList _ _ _ [_, _, _, _, _, _, _, _, _] _ _
  have hb1 : Below ((w.alloc (.cells #[.int .i64 p, .slice a st.length c] 26)).alloc (.cells #[.slice ad X.dg.length cd, .slice au X.up.length cu] 29)).heap.size ((w.alloc (.cells #[.int .i64 p, .slice a st.length c] 26)).alloc (.cells #[.slice ad X.dg.length cd, .slice au X.up.length cu] 29)) ((w.alloc (.cells #[.int .i64 p, .slice a st.length c] 26)).alloc (.cells #[.slice ad X.dg.length cd, .slice au X.up.length cu] 29)).drew := bwT
  have hs := hs.below hb1; have hxd := hxd.below hb1; have hxu := hxu.below hb1; have d0 := kept hb1 d0; have d1 := kept hb1 d1; have e0 := kept hb1 e0; have e1 := kept hb1 e1
  go_wp2_with fail
  refine (dfield_c).mono ?_; rintro e w2 ⟨rfl, hb2⟩
  have hs := hs.below hb2; have hxd := hxd.below hb2; have hxu := hxu.below hb2; have d0 := kept hb2 d0; have d1 := kept hb2 d1; have e0 := kept hb2 e0; have e1 := kept hb2 e1
  go_wp2_with fail
  have hz0 : Below ((w.alloc (.cells #[.int .i64 p, .slice a st.length c] 26)).alloc (.cells #[.slice ad X.dg.length cd, .slice au X.up.length cu] 29)).drew.heap.size ((w.alloc (.cells #[.int .i64 p, .slice a st.length c] 26)).alloc (.cells #[.slice ad X.dg.length cd, .slice au X.up.length cu] 29)).drew w2 := bwT
  first | (refine hK _ _ ⟨hz0, ?_⟩; clear hK K) | refine ⟨hz0, ?_⟩
  clear hz0
  refine norm_K fun K hK => ?_
  change wpList _ _ _ [_, _, _, _, _, _, _, _, _, _, _, _, _, _, _, _] _ _
  go_wp2_with fail
  refine (is_c (by omega) (by omega) hxd.sl hz.h1).mono ?_; rintro e w3 ⟨rfl, rfl⟩
  simp only [h2]
  go_wp2_with fail
  refine (hcon _ _ _ hs hxu).mono ?_; rintro e w4 ⟨rfl, hb4⟩
  have hs := hs.below hb4; have hxd := hxd.below hb4; have hxu := hxu.below hb4; have d0 := kept hb4 d0; have d1 := kept hb4 d1; have e0 := kept hb4 e0; have e1 := kept hb4 e1
  go_wp2_with fail
  first | (refine hK _ _ ⟨rfl, ?_⟩; clear hK K) | refine ⟨rfl, ?_⟩
  go_wp2_with fail
  go_ret
  exact ⟨by rw [HU.out, h4]; rfl, bwT⟩
def Lh (w : World) (v : Value) (l : List Her) : Prop :=
 ∃ a c, v = .slice a l.length c /\ (l = [] \/ ∃ b off, a = some ⟨b, off, none⟩ /\ ∀ j (h : j < l.length), ∃ d u, w.cell? ⟨b, off + j * 2, none⟩ = some d /\ w.cell? ⟨b, off + j * 2 + 1, none⟩ = some u /\ Hv w (.agg #[d, u]) l[j])
theorem Lh.below {w w' : World} {v : Value} {l : List Her} (h : Lh w v l) (hb : Below w.heap.size w w') : Lh w' v l := by
 obtain ⟨a, c, rfl, h⟩ := h
 refine ⟨a, c, rfl, ?_⟩
 rcases h with h | ⟨b, off, ha, h⟩
 ·exact .inl h
 ·refine .inr ⟨b, off, ha, fun j hj => ?_⟩
  obtain ⟨d, u, h1, h2, h3⟩ := h j hj
  exact ⟨d, u, kept hb h1, kept hb h2, h3.below hb⟩
theorem Lh.get {w : World} {b off : Nat} {l : List Her} (h : ∀ j (h : j < l.length), ∃ d u, w.cell? ⟨b, off + j * 2, none⟩ = some d /\ w.cell? ⟨b, off + j * 2 + 1, none⟩ = some u /\ Hv w (.agg #[d, u]) l[j]) {m : Nat} (hm : m < l.length) :
  ∃ d u X, X ∈ l /\ w.cell? ⟨b, off + m * 2, none⟩ = some d /\ w.cell? ⟨b, off + m * 2 + 1, none⟩ = some u /\ Hv w (.agg #[d, u]) X /\ l.take (m + 1) = l.take m ++ [X] := by
 obtain ⟨d, u, h1, h2, h3⟩ := h m hm
 exact ⟨d, u, l[m], List.getElem_mem hm, h1, h2, h3, List.take_succ_eq_append_getElem hm⟩
theorem Lh.one {w : World} {d u : Value} {X : Her} {b c : Nat} (h : Hv w (.agg #[d, u]) X) (h0 : w.cell? ⟨b, 0, none⟩ = some d) (h1 : w.cell? ⟨b, 1, none⟩ = some u) : Lh w (.slice (some ⟨b, 0, none⟩) 1 c) [X] := by
 refine ⟨_, c, rfl, .inr ⟨b, 0, rfl, fun j hj => ?_⟩⟩
 obtain rfl : j = 0 := by simpa using hj
 exact ⟨d, u, h0, h1, h⟩
theorem Lh.two {w : World} {d u d' u' : Value} {X Y : Her} {b c : Nat} (h : Hv w (.agg #[d, u]) X) (h0 : w.cell? ⟨b, 0, none⟩ = some d) (h1 : w.cell? ⟨b, 1, none⟩ = some u)
  (k : Hv w (.agg #[d', u']) Y) (h2 : w.cell? ⟨b, 2, none⟩ = some d') (h3 : w.cell? ⟨b, 3, none⟩ = some u') : Lh w (.slice (some ⟨b, 0, none⟩) 2 c) [X, Y] := by
 refine ⟨_, c, rfl, .inr ⟨b, 0, rfl, fun j hj => ?_⟩⟩
 simp at hj
 rcases (show j = 0 \/ j = 1 by omega) with rfl | rfl
 ·exact ⟨d, u, h0, h1, h⟩
 ·exact ⟨d', u', h2, h3, k⟩
theorem chkh1_c {p : Int} {s x : Value} {q : Nat} {st : List Int} {X : Her} {w : World} (hd : Dok p st) (h0 : w.cell? ⟨q, 0, none⟩ = some (.int .i64 p)) (h1 : w.cell? ⟨q, 1, none⟩ = some s) (hs : El w s st) (hx : Hv w x X) (hz : Hsz X) :
  Calls Tryz.prog 51 #[x, .pointer (some ⟨q, 0, none⟩)] w fun e w' => e = .returned (.bool (!isH p (sz st.length) X)) /\ Below w.heap.size w w' := by
 obtain ⟨d, u, rfl, hxd, hxu⟩ := id hx
 obtain ⟨a, c, rfl, _⟩ := id hs.op
 obtain ⟨ad, cd, rfl, _⟩ := id hxd.op
 obtain ⟨au, cu, rfl, _⟩ := id hxu
 cases hv : isH p (sz st.length) X
 all_goals
  go_enter Tryz.func51, Tryz.ntmps51
  have hb0 : Below w.heap.size w (w.alloc (.cells #[.slice ad X.dg.length cd, .slice au X.up.length cu] 29)) := bwT
  have hs := hs.below hb0; have hx := hx.below hb0; have h0 := kept hb0 h0; have h1 := kept hb0 h1
  have e0 : (w.alloc (.cells #[.slice ad X.dg.length cd, .slice au X.up.length cu] 29)).cell? ⟨w.heap.size, 0, none⟩ = some (.slice ad X.dg.length cd) := by simp [go_sem]
  have e1 : (w.alloc (.cells #[.slice ad X.dg.length cd, .slice au X.up.length cu] 29)).cell? ⟨w.heap.size, 1, none⟩ = some (.slice au X.up.length cu) := by simp [go_sem]
  go_wp2_with fail
  refine (isher_c hd hs hx hz).mono ?_; rintro e w1 ⟨rfl, hb1⟩
  have hs := hs.below hb1; have hx := hx.below hb1; have h0 := kept hb1 h0; have h1 := kept hb1 h1; have e0 := kept hb1 e0; have e1 := kept hb1 e1
  simp only [hv]
  go_wp2_with fail
  go_ret
  exact ⟨rfl, bwT⟩
theorem idxh_c {p : Int} {s l : Value} {q : Nat} {st : List Int} {Xs : List Her} {w : World} (hd : Dok p st) (h0 : w.cell? ⟨q, 0, none⟩ = some (.int .i64 p)) (h1 : w.cell? ⟨q, 1, none⟩ = some s) (hs : El w s st) (hl : Lh w l Xs) (hz : ∀ X ∈ Xs, Hsz X) (hm : Xs.length <= 1000) :
  Calls Tryz.prog 95 #[l, .func (Fn.func 51) #[] #[.pointer (some ⟨q, 0, none⟩)]] w fun e w' =>
   ∃ k : Int, e = .returned (.int .i64 k) /\ Found k (!Xs.all (isH p (sz st.length))) /\ -1 <= k /\ k <= 1048576 /\ Below w.heap.size w w' := by
 obtain ⟨a, c, rfl, rfl | ⟨b, off, rfl, hl⟩⟩ := hl
 ·go_enter Tryz.func95, Tryz.ntmps95
  go_wp2
  refine wp_loop_rounds 1 ?_; rw [rounds_succ]
  go_wp2; go_ret; exact ⟨_, rfl, (rfl : decide _ = _), by decide, by decide, Below.refl _ _⟩
 go_enter Tryz.func95, Tryz.ntmps95
 go_wp2
 go_loopw [8] (fun i wr => ∃ k : Nat, k <= Xs.length /\ i = .int .i64 k /\ (Xs.take k).all (isH p (sz st.length)) = true /\ Below w.heap.size w wr) (fun i _ => Xs.length - (intOf i).toNat)
 case atStart => exact ⟨0, Nat.zero_le _, rfl, rfl, Below.refl _ _⟩
 case round =>
  obtain ⟨k, hk, rfl, hr, hb⟩ := hrel
  by_cases hlt : k < Xs.length
  ·obtain ⟨d, u, X, hX, hc0, hc1, hxv, ht⟩ := Lh.get hl hlt
   have hc0 := kept hb hc0
   have hc1 := kept hb hc1
   have hxv := hxv.below hb
   have g0 := kept hb h0
   have g1 := kept hb h1
   have gs := hs.below hb
   have hzx := hz X hX
   have H := Lib.hid (And.intro (all_snoc hr ht) (@all_no _ (isH p (sz st.length)) _ _ hX)); clear hr ht
   cases hv : isH p (sz st.length) X
   ·go_wp2_with (go_at_call 51; refine (chkh1_c hd g0 g1 gs hxv hzx).mono ?_; rintro e w1 ⟨rfl, hb1⟩; simp only [hv])
    go_ret
    exact ⟨_, rfl, by rw [H.out.2 hv]; unfold Found; simp, by omega, by omega, bwC hb hb1⟩
   ·go_wp2_with (go_at_call 51; refine (chkh1_c hd g0 g1 gs hxv hzx).mono ?_; rintro e w1 ⟨rfl, hb1⟩; simp only [hv])
    go_roundw
    case rel => exact ⟨k + 1, by omega, by go_num, by rw [H.out.1, hv], bwC hb hb1⟩
    case measure => simp [intOf]; omega
  ·have e : Xs.take k = Xs := take_all (by omega)
   rw [e] at hr
   have H := Lib.hid hr; clear hr e
   go_wp2
   go_ret
   exact ⟨_, rfl, by rw [H.out]; unfold Found; rfl, by decide, by decide, hb⟩
theorem conh_c {p : Int} {s l : Value} {q : Nat} {st : List Int} {Xs : List Her} {w : World} (hd : Dok p st) (h0 : w.cell? ⟨q, 0, none⟩ = some (.int .i64 p)) (h1 : w.cell? ⟨q, 1, none⟩ = some s) (hs : El w s st) (hl : Lh w l Xs) (hz : ∀ X ∈ Xs, Hsz X) (hm : Xs.length <= 1000) :
  Calls Tryz.prog 50 #[l, .func (Fn.func 51) #[] #[.pointer (some ⟨q, 0, none⟩)]] w fun e w' =>
   e = .returned (.bool (!Xs.all (isH p (sz st.length)))) /\ Below w.heap.size w w' := by
 obtain ⟨a2, c2, rfl, _⟩ := id hl
 go_enter Tryz.func50, Tryz.ntmps50
 go_wp2_with (go_at_call 95; refine (idxh_c hd h0 h1 hs hl hz hm).mono ?_; rintro e w1 ⟨k, rfl, hk, hk1, hk2, hb1⟩; unfold Found at hk; have H := Lib.hid hk; clear hk)
 go_ret
 exact ⟨by rw [<- H.out]; rfl, hb1⟩
theorem chkH_ok {p : Int} {st : List Int} {l : List Her} (h : Dok p st) (h2 : l.all (isH p (sz st.length)) = true) : chkH p st l = 0 := by
 have := h.hl
 unfold chkH; rw [if_pos h.is, if_neg (by omega), if_pos h2]
theorem chkH_ran {p : Int} {st : List Int} {l : List Her} (h : Dok p st) (h2 : l.all (isH p (sz st.length)) = false) : chkH p st l = 2 := by
 have := h.hl
 unfold chkH; rw [if_pos h.is, if_neg (by omega), h2]; rfl
theorem chk3_dok {p : Int} {st : List Int} (h : chk3 p st [] = 0) : Dok p st := by
 unfold chk3 at h
 split at h
 ·rename_i h1
  split at h
  ·cases h
  ·exact Dok.of h1 (by assumption)
 ·cases h
theorem chkH_non {p : Int} {st : List Int} {l : List Her} (h : chk3 p st [] ≠ 0) : chkH p st l = chk3 p st [] := by
 unfold chk3 at h ⊢
 unfold chkH
 split
 ·rename_i h1
  rw [if_pos h1] at h
  split
  ·rfl
  ·rename_i h2
   rw [if_neg h2] at h
   simp at h
 ·rfl
theorem chkH_pos {p : Int} {st : List Int} {l : List Her} (h : chkH p st l = 0) : Dok p st /\ l.all (isH p (sz st.length)) = true := by
 unfold chkH at h
 split at h
 ·rename_i h1
  split at h
  ·cases h
  ·rename_i h2
   split at h
   ·exact ⟨Dok.of h1 h2, by assumption⟩
   ·cases h
 ·cases h
theorem chkh_c {p : Int} {s l : Value} {st : List Int} {Xs : List Her} {w : World} (hs : El w s st) (hm : st.length <= 1048576) (hl : Lh w l Xs) (hz : ∀ X ∈ Xs, Hsz X) (hm2 : Xs.length <= 1000) :
  Calls Tryz.prog 19 #[.agg #[.int .i64 p, s], l] w fun e w' => e = .returned (.int .i64 (chkH p st Xs)) /\ Below w.heap.size w w' := by
 obtain ⟨a, c, rfl, _⟩ := id hs.op
 obtain ⟨a2, c2, rfl, _⟩ := id hl
 have hcon := fun W s (hs : El W s st) => chk3_c (w := W) (p := p) (x := s) (l := .slice none 0 0) (xss := []) hs (Re.nil W) hm (by simp) (by simp)
 by_cases h3 : chk3 p st [] = 0
 ·have hd := chk3_dok h3
  simp only [h3] at hcon
  clear h3
  cases h4 : Xs.all (isH p (sz st.length))
  all_goals
   first | rw [chkH_ran hd h4] | rw [chkH_ok hd h4]
   go_enter Tryz.func19, Tryz.ntmps19
   have hb0 : Below w.heap.size w (w.alloc (.cells #[.int .i64 p, .slice a st.length c] 26)) := bwT
   have hs := hs.below hb0; have hl := hl.below hb0
   have d0 : (w.alloc (.cells #[.int .i64 p, .slice a st.length c] 26)).cell? ⟨w.heap.size, 0, none⟩ = some (.int .i64 p) := by simp [go_sem]
   have d1 : (w.alloc (.cells #[.int .i64 p, .slice a st.length c] 26)).cell? ⟨w.heap.size, 1, none⟩ = some (.slice a st.length c) := by simp [go_sem]
   go_wp2_with fail
   refine (hcon _ _ hs).mono ?_; rintro e w1 ⟨rfl, hb1⟩
   have hs := hs.below hb1; have hl := hl.below hb1; have d0 := kept hb1 d0; have d1 := kept hb1 d1
   go_wp2_with fail
   refine (conh_c hd d0 d1 hs hl hz hm2).mono ?_; rintro e w2 ⟨rfl, hb2⟩
   have hs := hs.below hb2; have hl := hl.below hb2; have d0 := kept hb2 d0; have d1 := kept hb2 d1
   simp only [h4]
   go_wp2_with fail
   go_ret
   exact ⟨rfl, bwT⟩
 ·rw [chkH_non h3]
  obtain ⟨k, hk⟩ : ∃ k, k = chk3 p st [] := ⟨_, rfl⟩
  simp only [<- hk] at hcon h3 ⊢
  clear hk
  have hne : (k == 0) = false := by simpa using h3
  go_enter Tryz.func19, Tryz.ntmps19
  have hb0 : Below w.heap.size w (w.alloc (.cells #[.int .i64 p, .slice a st.length c] 26)) := bwT
  have hs := hs.below hb0; have hl := hl.below hb0
  have d0 : (w.alloc (.cells #[.int .i64 p, .slice a st.length c] 26)).cell? ⟨w.heap.size, 0, none⟩ = some (.int .i64 p) := by simp [go_sem]
  have d1 : (w.alloc (.cells #[.int .i64 p, .slice a st.length c] 26)).cell? ⟨w.heap.size, 1, none⟩ = some (.slice a st.length c) := by simp [go_sem]
  go_wp2_with fail
  refine (hcon _ _ hs).mono ?_; rintro e w1 ⟨rfl, hb1⟩
  have hs := hs.below hb1; have hl := hl.below hb1; have d0 := kept hb1 d0; have d1 := kept hb1 d1
  go_wp2_with fail
  go_ret
  exact ⟨rfl, bwT⟩
end Go.Proofs.YtilgbekffbphgaaGreat
