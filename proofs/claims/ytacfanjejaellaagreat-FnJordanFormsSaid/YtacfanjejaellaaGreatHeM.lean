/-
  The Draw functions of a doubling and one or two hermitian matrices.
-/
import Derived.Test.YtacfanjejaellaaGreatJbd
namespace Go.Proofs.YtacfanjejaellaaGreat
open Go.RowKit

/-- A drawn doubling and one matrix, or two. -/
def DrP1 (w : World) (e : Ending) (w' : World) : Prop := ∃ (p : Int) (v x : Value) (st : List Int) (X : Her), e = .returned (.tuple #[.agg #[.int .i64 p, v], x]) ∧ 0 ≤ p ∧ p ≤ 17 ∧ st.length ≤ 5 ∧ ElR w' w.heap.size v st ∧ HvR w' w.heap.size x X ∧ Hsz X ∧ Below w.heap.size w w'
def DrP2 (w : World) (e : Ending) (w' : World) : Prop := ∃ (p : Int) (v x y : Value) (st : List Int) (X Y : Her), e = .returned (.tuple #[.agg #[.int .i64 p, v], x, y]) ∧ 0 ≤ p ∧ p ≤ 17 ∧ st.length ≤ 5 ∧ ElR w' w.heap.size v st ∧ HvR w' w.heap.size x X ∧ HvR w' w.heap.size y Y ∧ Hsz X ∧ Hsz Y ∧ Below w.heap.size w w'
theorem HvR.shape {w : World} {B : Nat} {v : Value} {X : Her} (h : HvR w B v X) : ∃ a c b e, v = .agg #[.slice a X.dg.length c, .slice b X.up.length e] := by
  obtain ⟨d, u, rfl, hd, hu⟩ := h
  obtain ⟨a, c, rfl, _⟩ := hd.1.op
  obtain ⟨b, e, rfl, _⟩ := hu
  exact ⟨_, _, _, _, rfl⟩
theorem ElR.shape {w : World} {B : Nat} {v : Value} {xs : List Int} (h : ElR w B v xs) : ∃ a c, v = .slice a xs.length c := by
  obtain ⟨a, c, rfl, _⟩ := h.1.op
  exact ⟨_, _, rfl⟩
set_option maxHeartbeats 8000000 in
set_option maxRecDepth 100000 in
theorem sdrawh1_c {v : Value} {n : Nat} {w : World} (hc : Co w w.heap.size v n) :
    Calls Tryz.prog 86 #[v] w fun e w' => DrP1 w e w' := by
  obtain ⟨a, c, rfl, _⟩ := id hc
  go_enter Tryz.func86, Tryz.ntmps86
  go_wp2_with fail
  obtain ⟨W1, hW1⟩ : ∃ x, x = ((w.alloc (.cells #[.int .i64 0, .slice none 0 0] 26)).alloc (.cells #[.slice none 0 0, .slice none 0 0] 31)) := ⟨_, rfl⟩
  have hb1 : Below w.heap.size w W1 := by rw [hW1]; exact (by repeat (first | exact Below.refl _ _ | apply blw_drew | apply blw_alloc | (refine blw_set ?_ (by first | omega | (simp; done) | (simp; omega)) _) | refine below_chain ?_ (by assumption)))
  have hz1 : W1.heap.size = w.heap.size + 1 + 1 := by rw [hW1]; simp
  have ra0 : Bd W1 w.heap.size (.int .i64 0) (.slice none 0 0) := by rw [hW1]; exact Bd.below (heap_alloc_new w _) (by repeat (first | exact Below.refl _ _ | apply blw_drew | apply blw_alloc | (refine blw_set ?_ (by first | omega | (simp; done) | (simp; omega)) _) | refine below_chain ?_ (by assumption)))
  have ra1 : Bx W1 (w.heap.size + 1) (.slice none 0 0) (.slice none 0 0) := by
    rw [hW1]
    have h := heap_alloc_new (w.alloc (.cells #[.int .i64 0, .slice none 0 0] 26)) (.cells #[.slice none 0 0, .slice none 0 0] 31)
    rw [show (w.alloc (.cells #[.int .i64 0, .slice none 0 0] 26)).heap.size = w.heap.size + 1 by simp] at h
    exact Bx.below h (by repeat (first | exact Below.refl _ _ | apply blw_drew | apply blw_alloc | (refine blw_set ?_ (by first | omega | (simp; done) | (simp; omega)) _) | refine below_chain ?_ (by assumption)))
  rw [← hW1]
  clear hW1
  refine (sdraw16_c (m := 1) ((hc.below hb1).wide (by omega)) (by decide)).mono ?_; rintro e w2 ⟨p, v, l, st, zs, Xs, rfl, hp1, hp2, hl, hE, hL, hXl, hb2⟩
  have hbw := hb1.trans (hb2.mono (by omega))
  have hz2 : w.heap.size + 1 + 1 ≤ w2.heap.size := by have := hb2.size; omega
  have ra0 := ra0.below hb2
  have ra1 := ra1.below hb2
  have hE := hE.more (B' := w.heap.size + 1 + 1) (by omega); have hL := hL.more (B' := w.heap.size + 1 + 1) (by omega)
  clear hz1 hb1 hb2
  obtain ⟨av, cv, rfl⟩ := hE.shape
  obtain ⟨X, rfl⟩ : ∃ X, Xs = [X] := by match Xs, hXl with | [X], _ => exact ⟨X, rfl⟩
  clear hXl
  have hz0_ := hL.sz X (by simp)
  obtain ⟨gl, cl, _, _, rfl, hgl, _⟩ := hL.get (j := 0) (by simp)
  go_upto_region 2 with fail
  have hb3 : Below w2.heap.size w2 (w2.alloc (.cells #[.int .i64 p, .slice av st.length cv] 26)).drew := (by repeat (first | exact Below.refl _ _ | apply blw_drew | apply blw_alloc | (refine blw_set ?_ (by first | omega | (simp; done) | (simp; omega)) _) | refine below_chain ?_ (by assumption)))
  have hd3 : Bd (w2.alloc (.cells #[.int .i64 p, .slice av st.length cv] 26)).drew w2.heap.size (.int .i64 p) (.slice av st.length cv) := heap_alloc_new w2 _
  have ra0 := ra0.below hb3
  have ra1 := ra1.below hb3
  have hE := hE.below hb3; have hL := hL.below hb3
  have hbw := hbw.trans (hb3.mono hbw.size)
  have hwz : w.heap.size + 1 + 1 ≤ (w2.alloc (.cells #[.int .i64 p, .slice av st.length cv] 26)).drew.heap.size := by have := hb3.size; omega
  obtain ⟨M, hM⟩ : ∃ M, M = w2.heap.size := ⟨_, rfl⟩
  rw [← hM] at hd3 hz2 ⊢
  clear hM hb3
  refine @region_flowR ⟨w.heap.size, w.heap.size + 1 + 1⟩ _ [(false, [(0, 1), (1, 0), (2, 0), (3, 1), (4, 5)]), (false, [(5, 4)])] _ _ _ _ _ (by kernel_rfl) ?_
  refine norm_K fun K hK => ?_
  change wpList _ _ _ [_, _, _, _, _] _ _
  generalize (w2.alloc (.cells #[.int .i64 p, .slice av st.length cv] 26)).drew = wq at *
  obtain ⟨g0, q0, d0, u0, hg0_, hgB0, hgz0, hgc0, k00, k01, hV0⟩ := hL.get (j := 0) (by simp)
  obtain ⟨a0, c0, b0, e0, hs0_⟩ := hV0.shape
  cases hs0_
  have hgg0 : gl = g0 := by cases hg0_; rfl
  subst hgg0
  have hV0 : HvR _ _ _ X := hV0
  have m0 := hd3.c0; have m1 := hd3.c1
  have r00 := ra0.c0; have r01 := ra0.c1; have f00 := ra0.f 0; have f01 := ra0.f 1
  have r10 := ra1.c0; have r11 := ra1.c1; have f10 := ra1.f0; have f11 := ra1.f1
  (try simp at k00 k01)
  go_wp2_with fail
  first | (refine hK _ _ ⟨(((Chg.refl (w := wq)).trans ((Chg.set _ ⟨w.heap.size, 0, none⟩ _).wide (lo' := w.heap.size) (hi' := w.heap.size + 1 + 1) (by show w.heap.size ≤ w.heap.size; omega) (by show w.heap.size + 1 ≤ w.heap.size + 1 + 1; omega))).trans ((Chg.set _ ⟨w.heap.size, 1, none⟩ _).wide (lo' := w.heap.size) (hi' := w.heap.size + 1 + 1) (by show w.heap.size ≤ w.heap.size; omega) (by show w.heap.size + 1 ≤ w.heap.size + 1 + 1; omega))), ?_⟩; clear hK K) | refine ⟨(((Chg.refl (w := wq)).trans ((Chg.set _ ⟨w.heap.size, 0, none⟩ _).wide (lo' := w.heap.size) (hi' := w.heap.size + 1 + 1) (by show w.heap.size ≤ w.heap.size; omega) (by show w.heap.size + 1 ≤ w.heap.size + 1 + 1; omega))).trans ((Chg.set _ ⟨w.heap.size, 1, none⟩ _).wide (lo' := w.heap.size) (hi' := w.heap.size + 1 + 1) (by show w.heap.size ≤ w.heap.size; omega) (by show w.heap.size + 1 ≤ w.heap.size + 1 + 1; omega))), ?_⟩
  refine norm_K fun K hK => ?_
  change wpList _ _ _ [_] _ _
  go_wp2_with fail
  first | (refine hK _ _ ⟨⟨rfl, ?_⟩, ?_⟩; clear hK K) | refine ⟨⟨rfl, ?_⟩, ?_⟩
  · obtain ⟨cs_, T_, fr_, hgc_⟩ := hgc0
    repeat' (first | exact trivial | exact ⟨_, rfl, (show M < w.heap.size ∨ w.heap.size + 1 + 1 ≤ M by omega), _, _, _, hd3⟩ | exact ⟨_, rfl, (show gl < w.heap.size ∨ w.heap.size + 1 + 1 ≤ gl by omega), _, _, _, hgc_⟩ | refine And.intro ?_ ?_)
  go_wp2_with fail
  have hCF := (((((Chg.refl (w := wq)).trans ((Chg.set _ ⟨w.heap.size, 0, none⟩ (.int .i64 p)).wide (lo' := w.heap.size) (hi' := w.heap.size + 1 + 1) (by show w.heap.size ≤ w.heap.size; omega) (by show w.heap.size + 1 ≤ w.heap.size + 1 + 1; omega))).trans ((Chg.set _ ⟨w.heap.size, 1, none⟩ (.slice av st.length cv)).wide (lo' := w.heap.size) (hi' := w.heap.size + 1 + 1) (by show w.heap.size ≤ w.heap.size; omega) (by show w.heap.size + 1 ≤ w.heap.size + 1 + 1; omega))).trans ((Chg.set _ ⟨w.heap.size + 1, 0, none⟩ (.slice a0 X.dg.length c0)).wide (lo' := w.heap.size) (hi' := w.heap.size + 1 + 1) (by show w.heap.size ≤ w.heap.size + 1; omega) (by show w.heap.size + 1 + 1 ≤ w.heap.size + 1 + 1; omega))).trans ((Chg.set _ ⟨w.heap.size + 1, 1, none⟩ (.slice b0 X.up.length e0)).wide (lo' := w.heap.size) (hi' := w.heap.size + 1 + 1) (by show w.heap.size ≤ w.heap.size + 1; omega) (by show w.heap.size + 1 + 1 ≤ w.heap.size + 1 + 1; omega)))
  refine bodyPost_ret (v := .tuple #[.agg #[.int .i64 p, .slice av st.length cv], .agg #[.slice a0 X.dg.length c0, .slice b0 X.up.length e0]]) (by simp [results, Tryz.results86, go_sem, r00, r01, r10, r11]) rfl ?_
  exact ⟨p, _, _, st, X, rfl, hp1, hp2, hl, (hE.chg hCF (by omega)).more (by omega), (hV0.chg hCF (by omega)).more (by omega), hz0_, ((((hbw.setCell (p := ⟨w.heap.size, 0, none⟩) (by show w.heap.size ≤ w.heap.size; omega) _).setCell (p := ⟨w.heap.size, 1, none⟩) (by show w.heap.size ≤ w.heap.size; omega) _).setCell (p := ⟨w.heap.size + 1, 0, none⟩) (by show w.heap.size ≤ w.heap.size + 1; omega) _).setCell (p := ⟨w.heap.size + 1, 1, none⟩) (by show w.heap.size ≤ w.heap.size + 1; omega) _)⟩
set_option maxHeartbeats 8000000 in
set_option maxRecDepth 100000 in
theorem sdrawh2_c {v : Value} {n : Nat} {w : World} (hc : Co w w.heap.size v n) :
    Calls Tryz.prog 73 #[v] w fun e w' => DrP2 w e w' := by
  obtain ⟨a, c, rfl, _⟩ := id hc
  go_enter Tryz.func73, Tryz.ntmps73
  go_wp2_with fail
  obtain ⟨W1, hW1⟩ : ∃ x, x = (((w.alloc (.cells #[.int .i64 0, .slice none 0 0] 26)).alloc (.cells #[.slice none 0 0, .slice none 0 0] 31)).alloc (.cells #[.slice none 0 0, .slice none 0 0] 31)) := ⟨_, rfl⟩
  have hb1 : Below w.heap.size w W1 := by rw [hW1]; exact (by repeat (first | exact Below.refl _ _ | apply blw_drew | apply blw_alloc | (refine blw_set ?_ (by first | omega | (simp; done) | (simp; omega)) _) | refine below_chain ?_ (by assumption)))
  have hz1 : W1.heap.size = w.heap.size + 1 + 1 + 1 := by rw [hW1]; simp
  have ra0 : Bd W1 w.heap.size (.int .i64 0) (.slice none 0 0) := by rw [hW1]; exact Bd.below (heap_alloc_new w _) (by repeat (first | exact Below.refl _ _ | apply blw_drew | apply blw_alloc | (refine blw_set ?_ (by first | omega | (simp; done) | (simp; omega)) _) | refine below_chain ?_ (by assumption)))
  have ra1 : Bx W1 (w.heap.size + 1) (.slice none 0 0) (.slice none 0 0) := by
    rw [hW1]
    have h := heap_alloc_new (w.alloc (.cells #[.int .i64 0, .slice none 0 0] 26)) (.cells #[.slice none 0 0, .slice none 0 0] 31)
    rw [show (w.alloc (.cells #[.int .i64 0, .slice none 0 0] 26)).heap.size = w.heap.size + 1 by simp] at h
    exact Bx.below h (by repeat (first | exact Below.refl _ _ | apply blw_drew | apply blw_alloc | (refine blw_set ?_ (by first | omega | (simp; done) | (simp; omega)) _) | refine below_chain ?_ (by assumption)))
  have ra2 : Bx W1 (w.heap.size + 1 + 1) (.slice none 0 0) (.slice none 0 0) := by
    rw [hW1]
    have h := heap_alloc_new ((w.alloc (.cells #[.int .i64 0, .slice none 0 0] 26)).alloc (.cells #[.slice none 0 0, .slice none 0 0] 31)) (.cells #[.slice none 0 0, .slice none 0 0] 31)
    rw [show ((w.alloc (.cells #[.int .i64 0, .slice none 0 0] 26)).alloc (.cells #[.slice none 0 0, .slice none 0 0] 31)).heap.size = w.heap.size + 1 + 1 by simp] at h
    exact Bx.below h (by repeat (first | exact Below.refl _ _ | apply blw_drew | apply blw_alloc | (refine blw_set ?_ (by first | omega | (simp; done) | (simp; omega)) _) | refine below_chain ?_ (by assumption)))
  rw [← hW1]
  clear hW1
  refine (sdraw16_c (m := 2) ((hc.below hb1).wide (by omega)) (by decide)).mono ?_; rintro e w2 ⟨p, v, l, st, zs, Xs, rfl, hp1, hp2, hl, hE, hL, hXl, hb2⟩
  have hbw := hb1.trans (hb2.mono (by omega))
  have hz2 : w.heap.size + 1 + 1 + 1 ≤ w2.heap.size := by have := hb2.size; omega
  have ra0 := ra0.below hb2
  have ra1 := ra1.below hb2
  have ra2 := ra2.below hb2
  have hE := hE.more (B' := w.heap.size + 1 + 1 + 1) (by omega); have hL := hL.more (B' := w.heap.size + 1 + 1 + 1) (by omega)
  clear hz1 hb1 hb2
  obtain ⟨av, cv, rfl⟩ := hE.shape
  obtain ⟨X, Y, rfl⟩ : ∃ X Y, Xs = [X, Y] := by match Xs, hXl with | [X, Y], _ => exact ⟨X, Y, rfl⟩
  clear hXl
  have hz0_ := hL.sz X (by simp)
  have hz1_ := hL.sz Y (by simp)
  obtain ⟨gl, cl, _, _, rfl, hgl, _⟩ := hL.get (j := 0) (by simp)
  go_upto_region 2 with fail
  have hb3 : Below w2.heap.size w2 (w2.alloc (.cells #[.int .i64 p, .slice av st.length cv] 26)).drew := (by repeat (first | exact Below.refl _ _ | apply blw_drew | apply blw_alloc | (refine blw_set ?_ (by first | omega | (simp; done) | (simp; omega)) _) | refine below_chain ?_ (by assumption)))
  have hd3 : Bd (w2.alloc (.cells #[.int .i64 p, .slice av st.length cv] 26)).drew w2.heap.size (.int .i64 p) (.slice av st.length cv) := heap_alloc_new w2 _
  have ra0 := ra0.below hb3
  have ra1 := ra1.below hb3
  have ra2 := ra2.below hb3
  have hE := hE.below hb3; have hL := hL.below hb3
  have hbw := hbw.trans (hb3.mono hbw.size)
  have hwz : w.heap.size + 1 + 1 + 1 ≤ (w2.alloc (.cells #[.int .i64 p, .slice av st.length cv] 26)).drew.heap.size := by have := hb3.size; omega
  obtain ⟨M, hM⟩ : ∃ M, M = w2.heap.size := ⟨_, rfl⟩
  rw [← hM] at hd3 hz2 ⊢
  clear hM hb3
  refine @region_flowR ⟨w.heap.size, w.heap.size + 1 + 1 + 1⟩ _ [(false, [(0, 1), (1, 0), (2, 0), (3, 1), (4, 0), (5, 0), (6, 1), (7, 5)]), (false, [(8, 5)]), (false, [(9, 4)])] _ _ _ _ _ (by kernel_rfl) ?_
  refine norm_K fun K hK => ?_
  change wpList _ _ _ [_, _, _, _, _, _, _, _] _ _
  generalize (w2.alloc (.cells #[.int .i64 p, .slice av st.length cv] 26)).drew = wq at *
  obtain ⟨g0, q0, d0, u0, hg0_, hgB0, hgz0, hgc0, k00, k01, hV0⟩ := hL.get (j := 0) (by simp)
  obtain ⟨a0, c0, b0, e0, hs0_⟩ := hV0.shape
  cases hs0_
  have hgg0 : gl = g0 := by cases hg0_; rfl
  subst hgg0
  obtain ⟨g1, q1, d1, u1, hg1_, hgB1, hgz1, hgc1, k10, k11, hV1⟩ := hL.get (j := 1) (by simp)
  obtain ⟨a1, c1, b1, e1, hs1_⟩ := hV1.shape
  cases hs1_
  have hgg1 : gl = g1 := by cases hg1_; rfl
  rw [← hgg1] at k10 k11
  have hV0 : HvR _ _ _ X := hV0
  have hV1 : HvR _ _ _ Y := hV1
  have m0 := hd3.c0; have m1 := hd3.c1
  have r00 := ra0.c0; have r01 := ra0.c1; have f00 := ra0.f 0; have f01 := ra0.f 1
  have r10 := ra1.c0; have r11 := ra1.c1; have f10 := ra1.f0; have f11 := ra1.f1
  have r20 := ra2.c0; have r21 := ra2.c1; have f20 := ra2.f0; have f21 := ra2.f1
  (try simp at k00 k01); (try simp at k10 k11)
  go_wp2_with fail
  first | (refine hK _ _ ⟨(((Chg.refl (w := wq)).trans ((Chg.set _ ⟨w.heap.size, 0, none⟩ _).wide (lo' := w.heap.size) (hi' := w.heap.size + 1 + 1 + 1) (by show w.heap.size ≤ w.heap.size; omega) (by show w.heap.size + 1 ≤ w.heap.size + 1 + 1 + 1; omega))).trans ((Chg.set _ ⟨w.heap.size, 1, none⟩ _).wide (lo' := w.heap.size) (hi' := w.heap.size + 1 + 1 + 1) (by show w.heap.size ≤ w.heap.size; omega) (by show w.heap.size + 1 ≤ w.heap.size + 1 + 1 + 1; omega))), ?_⟩; clear hK K) | refine ⟨(((Chg.refl (w := wq)).trans ((Chg.set _ ⟨w.heap.size, 0, none⟩ _).wide (lo' := w.heap.size) (hi' := w.heap.size + 1 + 1 + 1) (by show w.heap.size ≤ w.heap.size; omega) (by show w.heap.size + 1 ≤ w.heap.size + 1 + 1 + 1; omega))).trans ((Chg.set _ ⟨w.heap.size, 1, none⟩ _).wide (lo' := w.heap.size) (hi' := w.heap.size + 1 + 1 + 1) (by show w.heap.size ≤ w.heap.size; omega) (by show w.heap.size + 1 ≤ w.heap.size + 1 + 1 + 1; omega))), ?_⟩
  refine norm_K fun K hK => ?_
  change wpList _ _ _ [_] _ _
  go_wp2_with fail
  first | (refine hK _ _ ⟨(((((Chg.refl (w := wq)).trans ((Chg.set _ ⟨w.heap.size, 0, none⟩ _).wide (lo' := w.heap.size) (hi' := w.heap.size + 1 + 1 + 1) (by show w.heap.size ≤ w.heap.size; omega) (by show w.heap.size + 1 ≤ w.heap.size + 1 + 1 + 1; omega))).trans ((Chg.set _ ⟨w.heap.size, 1, none⟩ _).wide (lo' := w.heap.size) (hi' := w.heap.size + 1 + 1 + 1) (by show w.heap.size ≤ w.heap.size; omega) (by show w.heap.size + 1 ≤ w.heap.size + 1 + 1 + 1; omega))).trans ((Chg.set _ ⟨w.heap.size + 1, 0, none⟩ _).wide (lo' := w.heap.size) (hi' := w.heap.size + 1 + 1 + 1) (by show w.heap.size ≤ w.heap.size + 1; omega) (by show w.heap.size + 1 + 1 ≤ w.heap.size + 1 + 1 + 1; omega))).trans ((Chg.set _ ⟨w.heap.size + 1, 1, none⟩ _).wide (lo' := w.heap.size) (hi' := w.heap.size + 1 + 1 + 1) (by show w.heap.size ≤ w.heap.size + 1; omega) (by show w.heap.size + 1 + 1 ≤ w.heap.size + 1 + 1 + 1; omega))), ?_⟩; clear hK K) | refine ⟨(((((Chg.refl (w := wq)).trans ((Chg.set _ ⟨w.heap.size, 0, none⟩ _).wide (lo' := w.heap.size) (hi' := w.heap.size + 1 + 1 + 1) (by show w.heap.size ≤ w.heap.size; omega) (by show w.heap.size + 1 ≤ w.heap.size + 1 + 1 + 1; omega))).trans ((Chg.set _ ⟨w.heap.size, 1, none⟩ _).wide (lo' := w.heap.size) (hi' := w.heap.size + 1 + 1 + 1) (by show w.heap.size ≤ w.heap.size; omega) (by show w.heap.size + 1 ≤ w.heap.size + 1 + 1 + 1; omega))).trans ((Chg.set _ ⟨w.heap.size + 1, 0, none⟩ _).wide (lo' := w.heap.size) (hi' := w.heap.size + 1 + 1 + 1) (by show w.heap.size ≤ w.heap.size + 1; omega) (by show w.heap.size + 1 + 1 ≤ w.heap.size + 1 + 1 + 1; omega))).trans ((Chg.set _ ⟨w.heap.size + 1, 1, none⟩ _).wide (lo' := w.heap.size) (hi' := w.heap.size + 1 + 1 + 1) (by show w.heap.size ≤ w.heap.size + 1; omega) (by show w.heap.size + 1 + 1 ≤ w.heap.size + 1 + 1 + 1; omega))), ?_⟩
  refine norm_K fun K hK => ?_
  change wpList _ _ _ [_] _ _
  go_wp2_with fail
  first | (refine hK _ _ ⟨⟨rfl, ?_⟩, ?_⟩; clear hK K) | refine ⟨⟨rfl, ?_⟩, ?_⟩
  · obtain ⟨cs_, T_, fr_, hgc_⟩ := hgc0
    repeat' (first | exact trivial | exact ⟨_, rfl, (show M < w.heap.size ∨ w.heap.size + 1 + 1 + 1 ≤ M by omega), _, _, _, hd3⟩ | exact ⟨_, rfl, (show gl < w.heap.size ∨ w.heap.size + 1 + 1 + 1 ≤ gl by omega), _, _, _, hgc_⟩ | refine And.intro ?_ ?_)
  go_wp2_with fail
  have hCF := (((((((Chg.refl (w := wq)).trans ((Chg.set _ ⟨w.heap.size, 0, none⟩ (.int .i64 p)).wide (lo' := w.heap.size) (hi' := w.heap.size + 1 + 1 + 1) (by show w.heap.size ≤ w.heap.size; omega) (by show w.heap.size + 1 ≤ w.heap.size + 1 + 1 + 1; omega))).trans ((Chg.set _ ⟨w.heap.size, 1, none⟩ (.slice av st.length cv)).wide (lo' := w.heap.size) (hi' := w.heap.size + 1 + 1 + 1) (by show w.heap.size ≤ w.heap.size; omega) (by show w.heap.size + 1 ≤ w.heap.size + 1 + 1 + 1; omega))).trans ((Chg.set _ ⟨w.heap.size + 1, 0, none⟩ (.slice a0 X.dg.length c0)).wide (lo' := w.heap.size) (hi' := w.heap.size + 1 + 1 + 1) (by show w.heap.size ≤ w.heap.size + 1; omega) (by show w.heap.size + 1 + 1 ≤ w.heap.size + 1 + 1 + 1; omega))).trans ((Chg.set _ ⟨w.heap.size + 1, 1, none⟩ (.slice b0 X.up.length e0)).wide (lo' := w.heap.size) (hi' := w.heap.size + 1 + 1 + 1) (by show w.heap.size ≤ w.heap.size + 1; omega) (by show w.heap.size + 1 + 1 ≤ w.heap.size + 1 + 1 + 1; omega))).trans ((Chg.set _ ⟨w.heap.size + 1 + 1, 0, none⟩ (.slice a1 Y.dg.length c1)).wide (lo' := w.heap.size) (hi' := w.heap.size + 1 + 1 + 1) (by show w.heap.size ≤ w.heap.size + 1 + 1; omega) (by show w.heap.size + 1 + 1 + 1 ≤ w.heap.size + 1 + 1 + 1; omega))).trans ((Chg.set _ ⟨w.heap.size + 1 + 1, 1, none⟩ (.slice b1 Y.up.length e1)).wide (lo' := w.heap.size) (hi' := w.heap.size + 1 + 1 + 1) (by show w.heap.size ≤ w.heap.size + 1 + 1; omega) (by show w.heap.size + 1 + 1 + 1 ≤ w.heap.size + 1 + 1 + 1; omega)))
  refine bodyPost_ret (v := .tuple #[.agg #[.int .i64 p, .slice av st.length cv], .agg #[.slice a0 X.dg.length c0, .slice b0 X.up.length e0], .agg #[.slice a1 Y.dg.length c1, .slice b1 Y.up.length e1]]) (by simp [results, Tryz.results73, go_sem, r00, r01, r10, r11, r20, r21]) rfl ?_
  exact ⟨p, _, _, _, st, X, Y, rfl, hp1, hp2, hl, (hE.chg hCF (by omega)).more (by omega), (hV0.chg hCF (by omega)).more (by omega), (hV1.chg hCF (by omega)).more (by omega), hz0_, hz1_, ((((((hbw.setCell (p := ⟨w.heap.size, 0, none⟩) (by show w.heap.size ≤ w.heap.size; omega) _).setCell (p := ⟨w.heap.size, 1, none⟩) (by show w.heap.size ≤ w.heap.size; omega) _).setCell (p := ⟨w.heap.size + 1, 0, none⟩) (by show w.heap.size ≤ w.heap.size + 1; omega) _).setCell (p := ⟨w.heap.size + 1, 1, none⟩) (by show w.heap.size ≤ w.heap.size + 1; omega) _).setCell (p := ⟨w.heap.size + 1 + 1, 0, none⟩) (by show w.heap.size ≤ w.heap.size + 1 + 1; omega) _).setCell (p := ⟨w.heap.size + 1 + 1, 1, none⟩) (by show w.heap.size ≤ w.heap.size + 1 + 1; omega) _)⟩
set_option maxHeartbeats 8000000 in
set_option maxRecDepth 100000 in
theorem sdrawinv_c {v : Value} {n : Nat} {w : World} (hc : Co w w.heap.size v n) :
    Calls Tryz.prog 35 #[v] w fun e w' => DrP1 w e w' := by
  obtain ⟨a, c, rfl, _⟩ := id hc
  go_enter Tryz.func35, Tryz.ntmps35
  go_wp2_with fail
  obtain ⟨W1, hW1⟩ : ∃ x, x = ((w.alloc (.cells #[.int .i64 0, .slice none 0 0] 26)).alloc (.cells #[.slice none 0 0, .slice none 0 0] 31)) := ⟨_, rfl⟩
  have hb1 : Below w.heap.size w W1 := by rw [hW1]; exact (by repeat (first | exact Below.refl _ _ | apply blw_drew | apply blw_alloc | (refine blw_set ?_ (by first | omega | (simp; done) | (simp; omega)) _) | refine below_chain ?_ (by assumption)))
  have hz1 : W1.heap.size = w.heap.size + 1 + 1 := by rw [hW1]; simp
  have ra0 : Bd W1 w.heap.size (.int .i64 0) (.slice none 0 0) := by rw [hW1]; exact Bd.below (heap_alloc_new w _) (by repeat (first | exact Below.refl _ _ | apply blw_drew | apply blw_alloc | (refine blw_set ?_ (by first | omega | (simp; done) | (simp; omega)) _) | refine below_chain ?_ (by assumption)))
  have ra1 : Bx W1 (w.heap.size + 1) (.slice none 0 0) (.slice none 0 0) := by
    rw [hW1]
    have h := heap_alloc_new (w.alloc (.cells #[.int .i64 0, .slice none 0 0] 26)) (.cells #[.slice none 0 0, .slice none 0 0] 31)
    rw [show (w.alloc (.cells #[.int .i64 0, .slice none 0 0] 26)).heap.size = w.heap.size + 1 by simp] at h
    exact Bx.below h (by repeat (first | exact Below.refl _ _ | apply blw_drew | apply blw_alloc | (refine blw_set ?_ (by first | omega | (simp; done) | (simp; omega)) _) | refine below_chain ?_ (by assumption)))
  rw [← hW1]
  clear hW1
  refine (sdrawh1_c ((hc.below hb1).wide (by omega))).mono ?_; rintro e w2 ⟨p, v, x, st, X, rfl, hp1, hp2, hl, hE, hV0, hz0_, hb2⟩
  have hbw := hb1.trans (hb2.mono (by omega))
  have hz2 : w.heap.size + 1 + 1 ≤ w2.heap.size := by have := hb2.size; omega
  have ra0 := ra0.below hb2
  have ra1 := ra1.below hb2
  have hE := hE.more (B' := w.heap.size + 1 + 1) (by omega); have hV0 := hV0.more (B' := w.heap.size + 1 + 1) (by omega)
  clear hz1 hb1 hb2
  obtain ⟨av, cv, rfl⟩ := hE.shape
  obtain ⟨a0, c0, b0, e0, rfl⟩ := hV0.shape
  have r00 := ra0.c0; have r01 := ra0.c1; have f00 := ra0.f 0; have f01 := ra0.f 1
  have r10 := ra1.c0; have r11 := ra1.c1; have f10 := ra1.f0; have f11 := ra1.f1
  go_wp2_with fail
  have hCF := (((((Chg.refl (w := w2)).trans ((Chg.set _ ⟨w.heap.size, 0, none⟩ (.int .i64 p)).wide (lo' := w.heap.size) (hi' := w.heap.size + 1 + 1) (by show w.heap.size ≤ w.heap.size; omega) (by show w.heap.size + 1 ≤ w.heap.size + 1 + 1; omega))).trans ((Chg.set _ ⟨w.heap.size, 1, none⟩ (.slice av st.length cv)).wide (lo' := w.heap.size) (hi' := w.heap.size + 1 + 1) (by show w.heap.size ≤ w.heap.size; omega) (by show w.heap.size + 1 ≤ w.heap.size + 1 + 1; omega))).trans ((Chg.set _ ⟨w.heap.size + 1, 0, none⟩ (.slice a0 X.dg.length c0)).wide (lo' := w.heap.size) (hi' := w.heap.size + 1 + 1) (by show w.heap.size ≤ w.heap.size + 1; omega) (by show w.heap.size + 1 + 1 ≤ w.heap.size + 1 + 1; omega))).trans ((Chg.set _ ⟨w.heap.size + 1, 1, none⟩ (.slice b0 X.up.length e0)).wide (lo' := w.heap.size) (hi' := w.heap.size + 1 + 1) (by show w.heap.size ≤ w.heap.size + 1; omega) (by show w.heap.size + 1 + 1 ≤ w.heap.size + 1 + 1; omega)))
  refine bodyPost_ret (v := .tuple #[.agg #[.int .i64 p, .slice av st.length cv], .agg #[.slice a0 X.dg.length c0, .slice b0 X.up.length e0]]) (by simp [results, Tryz.results35, go_sem, r00, r01, r10, r11]) rfl ?_
  exact ⟨p, _, _, st, X, rfl, hp1, hp2, hl, (hE.chg hCF (by omega)).more (by omega), (hV0.chg hCF (by omega)).more (by omega), hz0_, ((((hbw.setCell (p := ⟨w.heap.size, 0, none⟩) (by show w.heap.size ≤ w.heap.size; omega) _).setCell (p := ⟨w.heap.size, 1, none⟩) (by show w.heap.size ≤ w.heap.size; omega) _).setCell (p := ⟨w.heap.size + 1, 0, none⟩) (by show w.heap.size ≤ w.heap.size + 1; omega) _).setCell (p := ⟨w.heap.size + 1, 1, none⟩) (by show w.heap.size ≤ w.heap.size + 1; omega) _)⟩
set_option maxHeartbeats 8000000 in
set_option maxRecDepth 100000 in
theorem sdrawcross_c {v : Value} {n : Nat} {w : World} (hc : Co w w.heap.size v n) :
    Calls Tryz.prog 30 #[v] w fun e w' => DrP2 w e w' := by
  obtain ⟨a, c, rfl, _⟩ := id hc
  go_enter Tryz.func30, Tryz.ntmps30
  go_wp2_with fail
  obtain ⟨W1, hW1⟩ : ∃ x, x = (((w.alloc (.cells #[.int .i64 0, .slice none 0 0] 26)).alloc (.cells #[.slice none 0 0, .slice none 0 0] 31)).alloc (.cells #[.slice none 0 0, .slice none 0 0] 31)) := ⟨_, rfl⟩
  have hb1 : Below w.heap.size w W1 := by rw [hW1]; exact (by repeat (first | exact Below.refl _ _ | apply blw_drew | apply blw_alloc | (refine blw_set ?_ (by first | omega | (simp; done) | (simp; omega)) _) | refine below_chain ?_ (by assumption)))
  have hz1 : W1.heap.size = w.heap.size + 1 + 1 + 1 := by rw [hW1]; simp
  have ra0 : Bd W1 w.heap.size (.int .i64 0) (.slice none 0 0) := by rw [hW1]; exact Bd.below (heap_alloc_new w _) (by repeat (first | exact Below.refl _ _ | apply blw_drew | apply blw_alloc | (refine blw_set ?_ (by first | omega | (simp; done) | (simp; omega)) _) | refine below_chain ?_ (by assumption)))
  have ra1 : Bx W1 (w.heap.size + 1) (.slice none 0 0) (.slice none 0 0) := by
    rw [hW1]
    have h := heap_alloc_new (w.alloc (.cells #[.int .i64 0, .slice none 0 0] 26)) (.cells #[.slice none 0 0, .slice none 0 0] 31)
    rw [show (w.alloc (.cells #[.int .i64 0, .slice none 0 0] 26)).heap.size = w.heap.size + 1 by simp] at h
    exact Bx.below h (by repeat (first | exact Below.refl _ _ | apply blw_drew | apply blw_alloc | (refine blw_set ?_ (by first | omega | (simp; done) | (simp; omega)) _) | refine below_chain ?_ (by assumption)))
  have ra2 : Bx W1 (w.heap.size + 1 + 1) (.slice none 0 0) (.slice none 0 0) := by
    rw [hW1]
    have h := heap_alloc_new ((w.alloc (.cells #[.int .i64 0, .slice none 0 0] 26)).alloc (.cells #[.slice none 0 0, .slice none 0 0] 31)) (.cells #[.slice none 0 0, .slice none 0 0] 31)
    rw [show ((w.alloc (.cells #[.int .i64 0, .slice none 0 0] 26)).alloc (.cells #[.slice none 0 0, .slice none 0 0] 31)).heap.size = w.heap.size + 1 + 1 by simp] at h
    exact Bx.below h (by repeat (first | exact Below.refl _ _ | apply blw_drew | apply blw_alloc | (refine blw_set ?_ (by first | omega | (simp; done) | (simp; omega)) _) | refine below_chain ?_ (by assumption)))
  rw [← hW1]
  clear hW1
  refine (sdrawh2_c ((hc.below hb1).wide (by omega))).mono ?_; rintro e w2 ⟨p, v, x, y, st, X, Y, rfl, hp1, hp2, hl, hE, hV0, hV1, hz0_, hz1_, hb2⟩
  have hbw := hb1.trans (hb2.mono (by omega))
  have hz2 : w.heap.size + 1 + 1 + 1 ≤ w2.heap.size := by have := hb2.size; omega
  have ra0 := ra0.below hb2
  have ra1 := ra1.below hb2
  have ra2 := ra2.below hb2
  have hE := hE.more (B' := w.heap.size + 1 + 1 + 1) (by omega); have hV0 := hV0.more (B' := w.heap.size + 1 + 1 + 1) (by omega); have hV1 := hV1.more (B' := w.heap.size + 1 + 1 + 1) (by omega)
  clear hz1 hb1 hb2
  obtain ⟨av, cv, rfl⟩ := hE.shape
  obtain ⟨a0, c0, b0, e0, rfl⟩ := hV0.shape
  obtain ⟨a1, c1, b1, e1, rfl⟩ := hV1.shape
  have r00 := ra0.c0; have r01 := ra0.c1; have f00 := ra0.f 0; have f01 := ra0.f 1
  have r10 := ra1.c0; have r11 := ra1.c1; have f10 := ra1.f0; have f11 := ra1.f1
  have r20 := ra2.c0; have r21 := ra2.c1; have f20 := ra2.f0; have f21 := ra2.f1
  go_wp2_with fail
  have hCF := (((((((Chg.refl (w := w2)).trans ((Chg.set _ ⟨w.heap.size, 0, none⟩ (.int .i64 p)).wide (lo' := w.heap.size) (hi' := w.heap.size + 1 + 1 + 1) (by show w.heap.size ≤ w.heap.size; omega) (by show w.heap.size + 1 ≤ w.heap.size + 1 + 1 + 1; omega))).trans ((Chg.set _ ⟨w.heap.size, 1, none⟩ (.slice av st.length cv)).wide (lo' := w.heap.size) (hi' := w.heap.size + 1 + 1 + 1) (by show w.heap.size ≤ w.heap.size; omega) (by show w.heap.size + 1 ≤ w.heap.size + 1 + 1 + 1; omega))).trans ((Chg.set _ ⟨w.heap.size + 1, 0, none⟩ (.slice a0 X.dg.length c0)).wide (lo' := w.heap.size) (hi' := w.heap.size + 1 + 1 + 1) (by show w.heap.size ≤ w.heap.size + 1; omega) (by show w.heap.size + 1 + 1 ≤ w.heap.size + 1 + 1 + 1; omega))).trans ((Chg.set _ ⟨w.heap.size + 1, 1, none⟩ (.slice b0 X.up.length e0)).wide (lo' := w.heap.size) (hi' := w.heap.size + 1 + 1 + 1) (by show w.heap.size ≤ w.heap.size + 1; omega) (by show w.heap.size + 1 + 1 ≤ w.heap.size + 1 + 1 + 1; omega))).trans ((Chg.set _ ⟨w.heap.size + 1 + 1, 0, none⟩ (.slice a1 Y.dg.length c1)).wide (lo' := w.heap.size) (hi' := w.heap.size + 1 + 1 + 1) (by show w.heap.size ≤ w.heap.size + 1 + 1; omega) (by show w.heap.size + 1 + 1 + 1 ≤ w.heap.size + 1 + 1 + 1; omega))).trans ((Chg.set _ ⟨w.heap.size + 1 + 1, 1, none⟩ (.slice b1 Y.up.length e1)).wide (lo' := w.heap.size) (hi' := w.heap.size + 1 + 1 + 1) (by show w.heap.size ≤ w.heap.size + 1 + 1; omega) (by show w.heap.size + 1 + 1 + 1 ≤ w.heap.size + 1 + 1 + 1; omega)))
  refine bodyPost_ret (v := .tuple #[.agg #[.int .i64 p, .slice av st.length cv], .agg #[.slice a0 X.dg.length c0, .slice b0 X.up.length e0], .agg #[.slice a1 Y.dg.length c1, .slice b1 Y.up.length e1]]) (by simp [results, Tryz.results30, go_sem, r00, r01, r10, r11, r20, r21]) rfl ?_
  exact ⟨p, _, _, _, st, X, Y, rfl, hp1, hp2, hl, (hE.chg hCF (by omega)).more (by omega), (hV0.chg hCF (by omega)).more (by omega), (hV1.chg hCF (by omega)).more (by omega), hz0_, hz1_, ((((((hbw.setCell (p := ⟨w.heap.size, 0, none⟩) (by show w.heap.size ≤ w.heap.size; omega) _).setCell (p := ⟨w.heap.size, 1, none⟩) (by show w.heap.size ≤ w.heap.size; omega) _).setCell (p := ⟨w.heap.size + 1, 0, none⟩) (by show w.heap.size ≤ w.heap.size + 1; omega) _).setCell (p := ⟨w.heap.size + 1, 1, none⟩) (by show w.heap.size ≤ w.heap.size + 1; omega) _).setCell (p := ⟨w.heap.size + 1 + 1, 0, none⟩) (by show w.heap.size ≤ w.heap.size + 1 + 1; omega) _).setCell (p := ⟨w.heap.size + 1 + 1, 1, none⟩) (by show w.heap.size ≤ w.heap.size + 1 + 1; omega) _)⟩
end Go.Proofs.YtacfanjejaellaaGreat
