/-
  Draws of a doubling and some elements.
-/
import Derived.Test.YtgcelfnjijhmkaaGreatJbv
import Derived.Test.YtgcelfnjijhmkaaGreatJbb
namespace Go.Proofs.YtgcelfnjijhmkaaGreat
open Go.RowKit

theorem chg_set_ {lo hi b k : Nat} {w w' : World} (h : Chg lo hi w w') (h1 : lo ≤ b) (h2 : b < hi) (u : Value) : Chg lo hi w (w'.setCell ⟨b, k, none⟩ u) :=
  h.trans ((Chg.set w' ⟨b, k, none⟩ u).wide (lo' := lo) (hi' := hi) h1 h2)
def DrS (w : World) (n : Nat) (e : Ending) (w' : World) : Prop := ∃ (p : Int) (v l : Value) (st : List Int) (us : List Value) (xss : List (List Int)), e = .returned (.tuple #[.agg #[.int .i64 p, v], l]) ∧ 0 ≤ p ∧ p ≤ 17 ∧ st.length ≤ 5 ∧ ElR w' w.heap.size v st ∧ LsR w' w.heap.size l us xss ∧ xss.length = n ∧ (∀ xs ∈ xss, xs.length ≤ 16) ∧ Below w.heap.size w w'
def DrE2 (w : World) (e : Ending) (w' : World) : Prop := ∃ (p : Int) (v x y : Value) (st xs ys : List Int), e = .returned (.tuple #[.agg #[.int .i64 p, v], x, y]) ∧ 0 ≤ p ∧ p ≤ 17 ∧ st.length ≤ 5 ∧ ElR w' w.heap.size v st ∧ ElR w' w.heap.size x xs ∧ ElR w' w.heap.size y ys ∧ xs.length ≤ 16 ∧ ys.length ≤ 16 ∧ Below w.heap.size w w'
set_option maxHeartbeats 8000000 in
set_option maxRecDepth 100000 in
theorem sdraw12_c {v : Value} {n m : Nat} {w : World} (hc : Co w w.heap.size v n) (hm : m ≤ 3) :
    Calls Tryz.prog 70 #[v, .int .i64 m] w fun e w' => DrS w m e w' := by
  obtain ⟨a, c, rfl, _⟩ := id hc
  go_enter Tryz.func70, Tryz.ntmps70
  go_wp2_with fail
  have hb1 : Below w.heap.size w (w.alloc (.cells #[.int .i64 0, .slice none 0 0] 26)) := (by repeat (first | exact .refl _ _ | apply bwD | apply bwA | (refine bwS ?_ (by first | omega | simp <;> omega) _) | refine bwC ?_ (by assumption)))
  have hr1 : Bd (w.alloc (.cells #[.int .i64 0, .slice none 0 0] 26)) w.heap.size (.int .i64 0) (.slice none 0 0) := heap_alloc_new w _
  have hz1 : (w.alloc (.cells #[.int .i64 0, .slice none 0 0] 26)).heap.size = w.heap.size + 1 := by simp
  have hc1 := hc.below hb1
  generalize w.alloc (.cells #[.int .i64 0, .slice none 0 0] 26) = W1 at *
  refine (sfrom_c (hc1.wide (by omega))).mono ?_; rintro e w2 ⟨rfl, hs2, hz2, hb2⟩
  have hr2 := hr1.below hb2
  have hbw2 := hb1.trans (hb2.mono (by omega))
  obtain ⟨q, hq⟩ : ∃ q, q = W1.heap.size := ⟨_, rfl⟩
  rw [← hq] at hs2 ⊢
  have hqw : w.heap.size + 1 = q := by omega
  have HQ := Lib.hid hqw
  have hq2 : q + 1 = w2.heap.size := by omega
  have HQ2 := Lib.hid hq2
  clear hq hqw hq2 hz1 hz2 hc1 hb1 hb2 hr1 hc
  go_wp2_with fail
  refine (sdrawany_c hs2 (by omega) (by omega)).mono ?_; rintro e w4 ⟨p, v4, st, rfl, hp1, hp2, hl5, ho, hs4, hc4⟩
  have hr4 := hr2.chg hc4 (.inl (by have := HQ.out; omega))
  have hE4 := ho.elr
  obtain ⟨av, nv, cv, rfl⟩ := ho.form
  obtain rfl : nv = st.length := ho.len
  have hcw4 := hc4
  have hz4 := hc4.size
  clear hc4 hs2 hr2 ho
  go_upto_region 3 with fail
  have hb5 : Below w4.heap.size w4 (w4.alloc (.cells #[.int .i64 p, .slice av st.length cv] 26)) := (by repeat (first | exact .refl _ _ | apply bwD | apply bwA | (refine bwS ?_ (by first | omega | simp <;> omega) _) | refine bwC ?_ (by assumption)))
  have hd5 : Bd (w4.alloc (.cells #[.int .i64 p, .slice av st.length cv] 26)) w4.heap.size (.int .i64 p) (.slice av st.length cv) := heap_alloc_new w4 _
  have hz5 : (w4.alloc (.cells #[.int .i64 p, .slice av st.length cv] 26)).heap.size = w4.heap.size + 1 := by simp
  have hr5 := hr4.below hb5; have hs5 := hs4.below hb5; have hcw5 : Chg q (q + 1) w4 _ := (Chg.refl (w := w4)).bl hb5
  obtain ⟨M, hM⟩ : ∃ M, M = w4.heap.size := ⟨_, rfl⟩
  rw [← hM] at hd5 hz5 ⊢
  generalize w4.alloc (.cells #[.int .i64 p, .slice av st.length cv] 26) = W5 at *
  have hMq : q + 1 ≤ M := by have := HQ2.out; omega
  have hEq : ElR w4 (q + 1) (.slice av st.length cv) st := hE4.more (by have := HQ2.out; omega)
  have hbw4 : Below w.heap.size w w4 := below_bchg hbw2 hcw4 (by have := HQ.out; omega) hbw2.size
  have hwz4 : w4.heap.size = M := hM.symm
  have HM := Lib.hid hwz4
  clear hwz4 hM hb5 hr4 hE4 hs4 hcw4 hz4 hbw2
  have hb6 : Below W5.heap.size W5 (W5.alloc (.cells #[] 24)) := (by repeat (first | exact .refl _ _ | apply bwD | apply bwA | (refine bwS ?_ (by first | omega | simp <;> omega) _) | refine bwC ?_ (by assumption)))
  have hl6 := LsR.new (w := W5) (B := M + 1) (by omega)
  have hd6 := hd5.below hb6; have hr6 := hr5.below hb6; have hs6 := hs5.below hb6; have hcw6 := hcw5.bl (hb6.mono hcw5.size)
  have hz6 : M + 1 ≤ (W5.alloc (.cells #[] 24)).heap.size := by simp; omega
  clear hb6 hd5 hr5 hs5 hcw5
  have HZ5 := Lib.hid hz5; clear hz5
  go_wp2_with fail
  go_loopw [1, 8] (fun cv_ lv wr => ∃ (k : Nat) (us : List Value) (xss : List (List Int)), k ≤ m ∧ cv_ = .int .i64 ((m : Int) - k) ∧ xss.length = k ∧ (∀ xs ∈ xss, xs.length ≤ 16) ∧ LsR wr (M + 1) lv us xss ∧ Bd wr M (.int .i64 p) (.slice av st.length cv) ∧ Bd wr w.heap.size (.int .i64 0) (.slice none 0 0) ∧ Src wr q ∧ Chg q (q + 1) w4 wr ∧ M + 1 ≤ wr.heap.size) (fun cv_ _ _ => (intOf cv_).toNat)
  case atStart => exact ⟨0, [], [], Nat.zero_le _, by simp, rfl, by simp, hl6, hd6, hr6, hs6, hcw6, hz6⟩
  case round =>
    clear hl6 hd6 hr6 hs6 hcw6 hz6
    obtain ⟨k, us, xss, hk, rfl, hXl, h16, hl, hd, hr, hsr, hcw, hz⟩ := hrel
    have HXL := Lib.hid (And.intro hXl hl.len); clear hXl
    have e0 := hd.c0; have e1 := hd.c1
    by_cases hlt : k < m
    · have hE := hEq.chg hcw (Nat.le_refl _)
      have hpos : 0 < (m : Int) - k := by omega
      go_wp2_with fail
      refine (sdrawel_c hsr hp1 hp2 hl5).mono ?_; rintro e w7 ⟨x7, xs7, rfl, hxl, hx7, hs7, hc7⟩
      have hzn := hl.fresh hx7
      have hl7 := hl.chg hc7 (by omega); have hd7 := hd.chg hc7 (.inr (by omega)); have hr7 := hr.chg hc7 (.inl (by have := HQ.out; omega))
      have hcw7 := hcw.trans hc7
      have hs7z := hc7.size
      clear hl hd hr hE hsr hcw hc7 e0 e1
      obtain ⟨a7, c7, rfl⟩ := hx7.shape
      obtain ⟨ab, cb, rfl⟩ := hl7.form
      go_wp2_with (at_builtin; refine appr_one rfl _ _ rfl w7 (M + 1) _ rfl (.slice ab us.length cb) us rfl (.slice a7 xs7.length c7) 1 rfl rfl hl7.own (by omega) (by have := HXL.out; omega) ?_; intro g' cap' w8 hown' hgb' hg' hge)
      have hl8 := hl7.snoc (hx7.more (by omega)) hzn (nv := .slice (some ⟨g', 0, none⟩) (us.length + 1) cap') rfl hown' hgb' hg' hge
      go_roundw
      case rel => exact ⟨k + 1, _, _, by omega, by go_num, by rw [List.length_append, HXL.out.1]; rfl, le16_snoc h16 hxl, hl8, hd7.bl hgb' (by omega), hr7.bl hgb' (by have := HQ.out; omega), hs7.bl hgb' (by omega), hcw7.bl (hgb'.mono (by rw [HM.out]; omega)), by have := hgb'.size; omega⟩
      case measure => simp [intOf]; omega
    · obtain rfl : k = m := by omega
      have hneg : ¬ 0 < (k : Int) - k := by omega
      have rc0 := hr.c0; have rc1 := hr.c1; have rf0 := hr.f 0; have rf1 := hr.f 1
      obtain ⟨ab, cb, rfl⟩ := hl.form
      go_wp2_with fail
      refine bodyPost_ret (v := .tuple #[.agg #[.int .i64 p, .slice av st.length cv], .slice ab us.length cb]) (by simp [results, Tryz.results70, go_sem, rc0, rc1]) rfl ?_
      have hE := hEq.chg hcw (Nat.le_refl _)
      have hqw := HQ.out
      have hS : Chg w.heap.size (w.heap.size + 1) wr ((wr.setCell ⟨w.heap.size, 0, none⟩ (.int .i64 p)).setCell ⟨w.heap.size, 1, none⟩ (.slice av st.length cv)) := (Chg.set _ ⟨w.heap.size, 0, none⟩ _).trans (Chg.set _ ⟨w.heap.size, 1, none⟩ _)
      refine ⟨p, _, _, st, us, xss, rfl, hp1, hp2, hl5, (hE.chg hS (by omega)).more (by omega), (hl.chg hS (by omega)).more (by omega), HXL.out.1, h16, ?_⟩
      exact ((below_bchg hbw4 hcw (by omega) hbw4.size).setCell (p := ⟨w.heap.size, 0, none⟩) (Nat.le_refl _) _).setCell (p := ⟨w.heap.size, 1, none⟩) (Nat.le_refl _) _
set_option maxHeartbeats 8000000 in
set_option maxRecDepth 100000 in
theorem sdrawcom_c {v : Value} {n : Nat} {w : World} (hc : Co w w.heap.size v n) :
    Calls Tryz.prog 30 #[v] w fun e w' => DrE2 w e w' := by
  obtain ⟨a, c, rfl, _⟩ := id hc
  go_enter Tryz.func30, Tryz.ntmps30
  go_wp2_with fail
  obtain ⟨W1, hW1⟩ : ∃ x, x = (w.alloc (.cells #[.int .i64 0, .slice none 0 0] 26)) := ⟨_, rfl⟩
  have hb1 : Below w.heap.size w W1 := by rw [hW1]; exact (by repeat (first | exact .refl _ _ | apply bwD | apply bwA | (refine bwS ?_ (by first | omega | simp <;> omega) _) | refine bwC ?_ (by assumption)))
  have hz1 : W1.heap.size = w.heap.size + 1 := by rw [hW1]; simp
  have ra0 : Bd W1 w.heap.size (.int .i64 0) (.slice none 0 0) := by rw [hW1]; exact heap_alloc_new w _
  rw [← hW1]; clear hW1
  refine (sdraw12_c (m := 2) ((hc.below hb1).wide (by omega)) (by decide)).mono ?_; rintro e w2 ⟨p, v, l, st, us, xss, rfl, hp1, hp2, hl, hE, hL, hXl, h16, hb2⟩
  have hbw := hb1.trans (hb2.mono (by omega))
  have hz2 : w.heap.size + 1 ≤ w2.heap.size := by have := hb2.size; omega
  have ra0 := ra0.below hb2
  have hE := hE.more (B' := w.heap.size + 1) (by omega); have hL := hL.more (B' := w.heap.size + 1) (by omega)
  clear hz1 hb1 hb2
  obtain ⟨av, cv, rfl⟩ := hE.shape
  obtain ⟨xs, ys, rfl⟩ : ∃ X Y, xss = [X, Y] := by match xss, hXl with | [X, Y], _ => exact ⟨X, Y, rfl⟩
  clear hXl
  have hx16 := h16 xs (by simp); have hy16 := h16 ys (by simp)
  obtain ⟨gl, cl, _, rfl, hgl, _⟩ := hL.get (j := 0) (by simp)
  have HUL := Lib.hid (show us.length = 2 from hL.len)
  go_upto_region 2 with fail
  have hb3 : Below w2.heap.size w2 (w2.alloc (.cells #[.int .i64 p, .slice av st.length cv] 26)).drew := (by repeat (first | exact .refl _ _ | apply bwD | apply bwA | (refine bwS ?_ (by first | omega | simp <;> omega) _) | refine bwC ?_ (by assumption)))
  have hd3 : Bd (w2.alloc (.cells #[.int .i64 p, .slice av st.length cv] 26)).drew w2.heap.size (.int .i64 p) (.slice av st.length cv) := heap_alloc_new w2 _
  have ra0 := ra0.below hb3
  have hE := hE.below hb3; have hL := hL.below hb3
  have hbw := hbw.trans (hb3.mono hbw.size)
  have hwz : w.heap.size + 1 ≤ (w2.alloc (.cells #[.int .i64 p, .slice av st.length cv] 26)).drew.heap.size := by have := hb3.size; omega
  obtain ⟨M, hM⟩ : ∃ M, M = w2.heap.size := ⟨_, rfl⟩
  rw [← hM] at hd3 hz2 ⊢
  clear hM hb3
  refine @region_flowR ⟨w.heap.size, w.heap.size + 1⟩ _ [(false, [(0, 1), (1, 0), (2, 0), (3, 1), (4, 0), (5, 0), (6, 1), (7, 5)]), (false, [(8, 0), (9, 0)])] _ _ _ _ _ (by kernel_rfl) ?_
  refine norm_K fun K hK => ?_
  change wpList _ _ _ [_, _, _, _, _, _, _, _] _ _
  generalize (w2.alloc (.cells #[.int .i64 p, .slice av st.length cv] 26)).drew = wq at *
  obtain ⟨g0, q0, x0, hg0_, hgB0, hgz0, hgc0, k0, hV0⟩ := hL.get (j := 0) (by simp)
  obtain rfl : gl = g0 := by cases hg0_; rfl
  obtain ⟨g1, q1, x1, hg1_, hgB1, hgz1, hgc1, k1, hV1⟩ := hL.get (j := 1) (by simp)
  obtain rfl : gl = g1 := by cases hg1_; rfl
  have hV0 : ElR _ _ _ xs := hV0
  have hV1 : ElR _ _ _ ys := hV1
  obtain ⟨a0, c0, rfl⟩ := hV0.shape
  obtain ⟨a1, c1, rfl⟩ := hV1.shape
  have m0 := hd3.c0; have m1 := hd3.c1
  have r00 := ra0.c0; have r01 := ra0.c1; have f00 := ra0.f 0; have f01 := ra0.f 1
  have h2a : (0 : Int) < us.length := by rw [HUL.out]; decide
  have h2b : (1 : Int) < us.length := by rw [HUL.out]; decide
  have h2c : 0 < us.length := by omega
  have h2d : 1 < us.length := by omega
  go_wp2_with fail
  first | (refine hK _ _ ⟨(chg_set_ (chg_set_ (Chg.refl (w := wq)) (lo := w.heap.size) (hi := w.heap.size + 1) (b := w.heap.size) (k := 0) (by omega) (by omega) (.int .i64 p)) (b := w.heap.size) (k := 1) (by omega) (by omega) (.slice av st.length cv)), ?_⟩; clear hK K) | refine ⟨(chg_set_ (chg_set_ (Chg.refl (w := wq)) (lo := w.heap.size) (hi := w.heap.size + 1) (b := w.heap.size) (k := 0) (by omega) (by omega) (.int .i64 p)) (b := w.heap.size) (k := 1) (by omega) (by omega) (.slice av st.length cv)), ?_⟩
  refine norm_K fun K hK => ?_
  change wpList _ _ _ [_, _] _ _
  go_wp2_with fail
  first | (refine hK _ _ ⟨⟨rfl, ?_⟩, ?_⟩; clear hK K) | refine ⟨⟨rfl, ?_⟩, ?_⟩
  · obtain ⟨cs_, T_, fr_, hgc_⟩ := hgc0
    repeat' (first | exact trivial | exact ⟨_, rfl, (show M < w.heap.size ∨ w.heap.size + 1 ≤ M by omega), _, _, _, hd3⟩ | exact ⟨_, rfl, (show gl < w.heap.size ∨ w.heap.size + 1 ≤ gl by omega), _, _, _, hgc_⟩ | refine And.intro ?_ ?_)
  go_wp2_with fail
  have hCF := (chg_set_ (chg_set_ (Chg.refl (w := wq)) (lo := w.heap.size) (hi := w.heap.size + 1) (b := w.heap.size) (k := 0) (by omega) (by omega) (.int .i64 p)) (b := w.heap.size) (k := 1) (by omega) (by omega) (.slice av st.length cv))
  refine bodyPost_ret (v := .tuple #[.agg #[.int .i64 p, .slice av st.length cv], .slice a0 xs.length c0, .slice a1 ys.length c1]) (by simp [results, Tryz.results30, go_sem, r00, r01]) rfl ?_
  exact ⟨p, _, _, _, st, xs, ys, rfl, hp1, hp2, hl, (hE.chg hCF (by omega)).more (by omega), (hV0.chg hCF (by omega)).more (by omega), (hV1.chg hCF (by omega)).more (by omega), hx16, hy16, below_bchg hbw hCF (Nat.le_refl _) hbw.size⟩
set_option maxHeartbeats 8000000 in
set_option maxRecDepth 100000 in
theorem sdrawptat_c {v : Value} {n : Nat} {w : World} (hc : Co w w.heap.size v n) :
    Calls Tryz.prog 6 #[v] w fun e w' => DrE2 w e w' := by
  obtain ⟨a, c, rfl, _⟩ := id hc
  go_enter Tryz.func6, Tryz.ntmps6
  go_wp2_with fail
  obtain ⟨W1, hW1⟩ : ∃ x, x = (w.alloc (.cells #[.int .i64 0, .slice none 0 0] 26)) := ⟨_, rfl⟩
  have hb1 : Below w.heap.size w W1 := by rw [hW1]; exact (by repeat (first | exact .refl _ _ | apply bwD | apply bwA | (refine bwS ?_ (by first | omega | simp <;> omega) _) | refine bwC ?_ (by assumption)))
  have hz1 : W1.heap.size = w.heap.size + 1 := by rw [hW1]; simp
  have ra0 : Bd W1 w.heap.size (.int .i64 0) (.slice none 0 0) := by rw [hW1]; exact heap_alloc_new w _
  rw [← hW1]; clear hW1
  refine (sdrawcom_c ((hc.below hb1).wide (by omega))).mono ?_; rintro e wq ⟨p, v, x, y, st, xs, ys, rfl, hp1, hp2, hl, hE, hV0, hV1, hx16, hy16, hb2⟩
  have hbw := hb1.trans (hb2.mono (by omega))
  have hz2 : w.heap.size + 1 ≤ wq.heap.size := by have := hb2.size; omega
  have ra0 := ra0.below hb2
  have hE := hE.more (B' := w.heap.size + 1) (by omega); have hV0 := hV0.more (B' := w.heap.size + 1) (by omega); have hV1 := hV1.more (B' := w.heap.size + 1) (by omega)
  clear hz1 hb1 hb2
  obtain ⟨av, cv, rfl⟩ := hE.shape
  obtain ⟨a0, c0, rfl⟩ := hV0.shape
  obtain ⟨a1, c1, rfl⟩ := hV1.shape
  have r00 := ra0.c0; have r01 := ra0.c1; have f00 := ra0.f 0; have f01 := ra0.f 1
  go_wp2_with fail
  have hCF := (chg_set_ (chg_set_ (Chg.refl (w := wq)) (lo := w.heap.size) (hi := w.heap.size + 1) (b := w.heap.size) (k := 0) (by omega) (by omega) (.int .i64 p)) (b := w.heap.size) (k := 1) (by omega) (by omega) (.slice av st.length cv))
  refine bodyPost_ret (v := .tuple #[.agg #[.int .i64 p, .slice av st.length cv], .slice a0 xs.length c0, .slice a1 ys.length c1]) (by simp [results, Tryz.results6, go_sem, r00, r01]) rfl ?_
  exact ⟨p, _, _, _, st, xs, ys, rfl, hp1, hp2, hl, (hE.chg hCF (by omega)).more (by omega), (hV0.chg hCF (by omega)).more (by omega), (hV1.chg hCF (by omega)).more (by omega), hx16, hy16, below_bchg hbw hCF (Nat.le_refl _) hbw.size⟩
end Go.Proofs.YtgcelfnjijhmkaaGreat
