/-
  The reference's checks of hermitian matrices.
-/
import Derived.Test.YtgcelfnjijhmkaaGreatHcA
namespace Go.Proofs.YtgcelfnjijhmkaaGreat
open Go.RowKit

theorem sl16is_c {p : Int} {s x : Value} {st : List Int} {X : Her} {w : World} (hd : Dok p st) (hs : El w s st) (hx : Hv w x X) (hz : Hsz X) :
    Calls Tryz.prog 125 #[.agg #[.int .i64 p, s], x] w fun e w' => e = .returned (.bool (isH p (sz st.length) X)) ∧ Below w.heap.size w w' := by
  have hp1 := hd.hp.lo
  have hp2 := hd.hp.hi
  have hl3 := hd.hl
  obtain ⟨d, u, rfl, hxd, hxu⟩ := hx
  obtain ⟨a, c, rfl, _⟩ := id hs.op
  obtain ⟨ad, cd, rfl, _, _, hxd'⟩ := hxd.op
  obtain ⟨au, cu, rfl, _, _, hxu'⟩ := hxu
  by_cases h1 : X.dg.length = 3
  case neg =>
    have HN := Lib.hid (isH_dl (p := p) (n := sz st.length) h1)
    have hn : ((X.dg.length : Int) != 3) = true := by rw [bne_iff_ne]; omega
    go_enter Tryz.func125, Tryz.ntmps125
    have hb0 : Below w.heap.size w ((w.alloc (.cells #[.int .i64 p, .slice a st.length c] 26)).alloc (.cells #[.slice ad X.dg.length cd, .slice au X.up.length cu] 31)) := (by repeat (first | exact .refl _ _ | apply bwD | apply bwA | (refine bwS ?_ (by first | omega | simp <;> omega) _) | refine bwC ?_ (by assumption)))
    have hs := hs.below hb0
    have d0 : ((w.alloc (.cells #[.int .i64 p, .slice a st.length c] 26)).alloc (.cells #[.slice ad X.dg.length cd, .slice au X.up.length cu] 31)).cell? ⟨w.heap.size, 0, none⟩ = some (.int .i64 p) := by simp [go_sem]
    have d1 : ((w.alloc (.cells #[.int .i64 p, .slice a st.length c] 26)).alloc (.cells #[.slice ad X.dg.length cd, .slice au X.up.length cu] 31)).cell? ⟨w.heap.size, 1, none⟩ = some (.slice a st.length c) := by simp [go_sem]
    have e0 : ((w.alloc (.cells #[.int .i64 p, .slice a st.length c] 26)).alloc (.cells #[.slice ad X.dg.length cd, .slice au X.up.length cu] 31)).cell? ⟨w.heap.size + 1, 0, none⟩ = some (.slice ad X.dg.length cd) := by simp [go_sem]
    have e1 : ((w.alloc (.cells #[.int .i64 p, .slice a st.length c] 26)).alloc (.cells #[.slice ad X.dg.length cd, .slice au X.up.length cu] 31)).cell? ⟨w.heap.size + 1, 1, none⟩ = some (.slice au X.up.length cu) := by simp [go_sem]
    go_wp2_with fail
    go_ret
    exact ⟨by rw [HN.out]; rfl, (by repeat (first | exact .refl _ _ | apply bwD | apply bwA | (refine bwS ?_ (by first | omega | simp <;> omega) _) | refine bwC ?_ (by assumption)))⟩
  have hn : ((X.dg.length : Int) != 3) = false := by rw [bne_eq_false_iff_eq]; omega
  by_cases h3 : X.up.length = 3
  case neg =>
    have HN := Lib.hid (isH_ul (p := p) (n := sz st.length) h3)
    have hn2 : ((X.up.length : Int) != 3) = true := by rw [bne_iff_ne]; omega
    clear h1
    go_enter Tryz.func125, Tryz.ntmps125
    have hb0 : Below w.heap.size w ((w.alloc (.cells #[.int .i64 p, .slice a st.length c] 26)).alloc (.cells #[.slice ad X.dg.length cd, .slice au X.up.length cu] 31)) := (by repeat (first | exact .refl _ _ | apply bwD | apply bwA | (refine bwS ?_ (by first | omega | simp <;> omega) _) | refine bwC ?_ (by assumption)))
    have hs := hs.below hb0
    have d0 : ((w.alloc (.cells #[.int .i64 p, .slice a st.length c] 26)).alloc (.cells #[.slice ad X.dg.length cd, .slice au X.up.length cu] 31)).cell? ⟨w.heap.size, 0, none⟩ = some (.int .i64 p) := by simp [go_sem]
    have d1 : ((w.alloc (.cells #[.int .i64 p, .slice a st.length c] 26)).alloc (.cells #[.slice ad X.dg.length cd, .slice au X.up.length cu] 31)).cell? ⟨w.heap.size, 1, none⟩ = some (.slice a st.length c) := by simp [go_sem]
    have e0 : ((w.alloc (.cells #[.int .i64 p, .slice a st.length c] 26)).alloc (.cells #[.slice ad X.dg.length cd, .slice au X.up.length cu] 31)).cell? ⟨w.heap.size + 1, 0, none⟩ = some (.slice ad X.dg.length cd) := by simp [go_sem]
    have e1 : ((w.alloc (.cells #[.int .i64 p, .slice a st.length c] 26)).alloc (.cells #[.slice ad X.dg.length cd, .slice au X.up.length cu] 31)).cell? ⟨w.heap.size + 1, 1, none⟩ = some (.slice au X.up.length cu) := by simp [go_sem]
    go_wp2_with fail
    go_ret
    exact ⟨by rw [HN.out]; rfl, (by repeat (first | exact .refl _ _ | apply bwD | apply bwA | (refine bwS ?_ (by first | omega | simp <;> omega) _) | refine bwC ?_ (by assumption)))⟩
  have hn2 : ((X.up.length : Int) != 3) = false := by rw [bne_eq_false_iff_eq]; omega
  rcases hxd' with h0 | ⟨bd, od, rfl, hA⟩
  · rw [h0] at h1; cases h1
  rcases hxu' with h0 | ⟨bu, ou, rfl, hR⟩
  · rw [h0] at h3; cases h3
  have hX : isH p (sz st.length) X = (isL p X.dg && X.up.all (isE p (sz st.length))) := by unfold isH; simp [h1, h3]
  have H3 := Lib.hid (And.intro h1 (And.intro h3 hX)); clear h1 h3 hX
  have hW : Below w.heap.size w ((w.alloc (.cells #[.int .i64 p, .slice a st.length c] 26)).alloc (.cells #[.slice (some ⟨bd, od, none⟩) X.dg.length cd, .slice (some ⟨bu, ou, none⟩) X.up.length cu] 31)) := (by repeat (first | exact .refl _ _ | apply bwD | apply bwA | (refine bwS ?_ (by first | omega | simp <;> omega) _) | refine bwC ?_ (by assumption)))
  go_enter Tryz.func125, Tryz.ntmps125
  have hb0 : Below w.heap.size w ((w.alloc (.cells #[.int .i64 p, .slice a st.length c] 26)).alloc (.cells #[.slice (some ⟨bd, od, none⟩) X.dg.length cd, .slice (some ⟨bu, ou, none⟩) X.up.length cu] 31)) := (by repeat (first | exact .refl _ _ | apply bwD | apply bwA | (refine bwS ?_ (by first | omega | simp <;> omega) _) | refine bwC ?_ (by assumption)))
  have hs := hs.below hb0; have hA := hA.below hb0
  have d0 : ((w.alloc (.cells #[.int .i64 p, .slice a st.length c] 26)).alloc (.cells #[.slice (some ⟨bd, od, none⟩) X.dg.length cd, .slice (some ⟨bu, ou, none⟩) X.up.length cu] 31)).cell? ⟨w.heap.size, 0, none⟩ = some (.int .i64 p) := by simp [go_sem]
  have d1 : ((w.alloc (.cells #[.int .i64 p, .slice a st.length c] 26)).alloc (.cells #[.slice (some ⟨bd, od, none⟩) X.dg.length cd, .slice (some ⟨bu, ou, none⟩) X.up.length cu] 31)).cell? ⟨w.heap.size, 1, none⟩ = some (.slice a st.length c) := by simp [go_sem]
  have e0 : ((w.alloc (.cells #[.int .i64 p, .slice a st.length c] 26)).alloc (.cells #[.slice (some ⟨bd, od, none⟩) X.dg.length cd, .slice (some ⟨bu, ou, none⟩) X.up.length cu] 31)).cell? ⟨w.heap.size + 1, 0, none⟩ = some (.slice (some ⟨bd, od, none⟩) X.dg.length cd) := by simp [go_sem]
  have e1 : ((w.alloc (.cells #[.int .i64 p, .slice a st.length c] 26)).alloc (.cells #[.slice (some ⟨bd, od, none⟩) X.dg.length cd, .slice (some ⟨bu, ou, none⟩) X.up.length cu] 31)).cell? ⟨w.heap.size + 1, 1, none⟩ = some (.slice (some ⟨bu, ou, none⟩) X.up.length cu) := by simp [go_sem]
  go_wp2
  obtain ⟨W, hWe⟩ : ∃ W, W = ((w.alloc (.cells #[.int .i64 p, .slice a st.length c] 26)).alloc (.cells #[.slice (some ⟨bd, od, none⟩) X.dg.length cd, .slice (some ⟨bu, ou, none⟩) X.up.length cu] 31)) := ⟨_, rfl⟩
  rw [← hWe] at hs hA d0 d1 e0 e1 hW ⊢
  have HW := Lib.hid hWe; clear hWe
  go_loopw [5] (fun i wr => ∃ k : Nat, k ≤ 3 ∧ i = .int .i64 k ∧ isL p (X.dg.take k) = true ∧ (X.up.take k).all (isE p (sz st.length)) = true ∧ Below W.heap.size W wr) (fun i _ => 3 - (intOf i).toNat)
  case atStart => exact ⟨0, by decide, rfl, rfl, rfl, Below.refl _ _⟩
  case round =>
    obtain ⟨k, hk, rfl, hr1, hr2, hb⟩ := hrel
    have hbw := bwC hW hb
    have k0 := kept hb d0; have k1 := kept hb d1; have k2 := kept hb e0; have k3 := kept hb e1
    have ks := hs.below hb
    by_cases hlt : k < 3
    · obtain ⟨z, hz1, hc, ht⟩ := (hA.below hb).get (m := k) (by have := H3.out.1; omega)
      obtain ⟨a1, c1, xs, hxs, hc2, hx2, ht2⟩ := Re.get hR (m := k) (by have := H3.out.2.1; omega)
      have hc2 := kept hbw hc2
      have hx2 := hx2.below hbw
      have hmx := hz.h3 xs hxs
      have hl1 : k < X.dg.length := by have := H3.out.1; omega
      have hl2 : k < X.up.length := by have := H3.out.2.1; omega
      have H := Lib.hid (And.intro (And.intro (all_snoc (f := fun n => inR n 0 (p - 1)) hr1 ht) (@all_no _ (fun n => inR n 0 (p - 1)) _ _ hz1)) (And.intro (all_snoc hr2 ht2) (@all_no _ (isE p (sz st.length)) _ _ hxs))); clear hr1 hr2 ht ht2
      cases hv : inR z 0 (p - 1)
      · go_wp2
        refine region_flow [(false, [(0, 0), (1, 1), (2, 0), (3, 0), (4, 1), (5, 0), (6, 1), (7, 0), (8, 4), (9, 0), (10, 0), (11, 1), (12, 0), (13, 1), (14, 0), (15, 0), (16, 1), (17, 4), (18, 0), (19, 0)])] (by kernel_rfl) ?_
        refine norm_K fun K hK => ?_
        change wpList _ _ _ [_, _, _, _, _, _, _, _, _, _, _, _, _, _, _, _, _, _, _, _] _ _
        go_wp2_with fail
        refine sin_c.mono ?_; rintro e w2 ⟨rfl, rfl⟩; simp only [hv]
        go_wp2_with fail
        first | (refine hK _ _ ⟨rfl, ?_⟩; clear hK K) | refine ⟨rfl, ?_⟩
        go_wp2_with fail
        go_ret
        exact ⟨by rw [H3.out.2.2, show isL p X.dg = false from H.out.1.2 hv]; rfl, bwC hW hb.drew⟩
      · cases hv2 : isE p (sz st.length) xs
        · go_wp2
          refine region_flow [(false, [(0, 0), (1, 1), (2, 0), (3, 0), (4, 1), (5, 0), (6, 1), (7, 0), (8, 4), (9, 0), (10, 0), (11, 1), (12, 0), (13, 1), (14, 0), (15, 0), (16, 1), (17, 4), (18, 0), (19, 0)])] (by kernel_rfl) ?_
          refine norm_K fun K hK => ?_
          change wpList _ _ _ [_, _, _, _, _, _, _, _, _, _, _, _, _, _, _, _, _, _, _, _] _ _
          go_wp2_with fail
          refine sin_c.mono ?_; rintro e w2 ⟨rfl, rfl⟩; simp only [hv]
          go_wp2_with fail
          refine (selem_c (ks.below (by repeat (first | exact .refl _ _ | apply bwD | apply bwA | (refine bwS ?_ (by first | omega | simp <;> omega) _) | refine bwC ?_ (by assumption)))) (hx2.below (by repeat (first | exact .refl _ _ | apply bwD | apply bwA | (refine bwS ?_ (by first | omega | simp <;> omega) _) | refine bwC ?_ (by assumption)))) (by omega) hmx (by omega) (by omega)).mono ?_; rintro e w3 ⟨rfl, hb3⟩; simp only [hv2]
          go_wp2_with fail
          first | (refine hK _ _ ⟨rfl, ?_⟩; clear hK K) | refine ⟨rfl, ?_⟩
          go_wp2_with fail
          go_ret
          exact ⟨by rw [H3.out.2.2, H.out.2.2 hv2, Bool.and_false]; rfl, bwC hW (bwC hb.drew hb3)⟩
        · go_wp2
          refine region_flow [(false, [(0, 0), (1, 1), (2, 0), (3, 0), (4, 1), (5, 0), (6, 1), (7, 0), (8, 4), (9, 0), (10, 0), (11, 1), (12, 0), (13, 1), (14, 0), (15, 0), (16, 1), (17, 4), (18, 0), (19, 0)])] (by kernel_rfl) ?_
          refine norm_K fun K hK => ?_
          change wpList _ _ _ [_, _, _, _, _, _, _, _, _, _, _, _, _, _, _, _, _, _, _, _] _ _
          go_wp2_with fail
          refine sin_c.mono ?_; rintro e w2 ⟨rfl, rfl⟩; simp only [hv]
          go_wp2_with fail
          refine (selem_c (ks.below (by repeat (first | exact .refl _ _ | apply bwD | apply bwA | (refine bwS ?_ (by first | omega | simp <;> omega) _) | refine bwC ?_ (by assumption)))) (hx2.below (by repeat (first | exact .refl _ _ | apply bwD | apply bwA | (refine bwS ?_ (by first | omega | simp <;> omega) _) | refine bwC ?_ (by assumption)))) (by omega) hmx (by omega) (by omega)).mono ?_; rintro e w3 ⟨rfl, hb3⟩; simp only [hv2]
          go_wp2_with fail
          first | (refine hK _ _ ⟨rfl, ?_⟩; clear hK K) | refine ⟨rfl, ?_⟩
          go_wp2_with fail
          go_roundw
          case rel => exact ⟨k + 1, by omega, by go_num, by unfold isL; rw [H.out.1.1, hv], by rw [H.out.2.1, hv2], bwC hb.drew hb3⟩
          case measure => simp [intOf]; omega
    · obtain rfl : k = 3 := by omega
      have e1 : X.dg.take 3 = X.dg := take_all (by have := H3.out.1; omega)
      have e2 : X.up.take 3 = X.up := take_all (by have := H3.out.2.1; omega)
      rw [e1] at hr1
      rw [e2] at hr2
      have H := Lib.hid (And.intro hr1 hr2); clear hr1 hr2 e1 e2
      go_wp2
      go_ret
      exact ⟨by rw [H3.out.2.2, H.out.1, H.out.2]; rfl, hbw⟩
theorem sl16_c {p : Int} {s l : Value} {st : List Int} {Xs : List Her} {w : World} (hs : El w s st) (hm : st.length ≤ 1048576) (hl : Lh w l Xs) (hz : ∀ X ∈ Xs, Hsz X) (hm2 : Xs.length ≤ 1000) :
    Calls Tryz.prog 94 #[.agg #[.int .i64 p, s], l] w fun e w' => e = .returned (.int .i64 (chkH p st Xs)) ∧ Below w.heap.size w w' := by
  obtain ⟨a, c, rfl, _⟩ := id hs.op
  obtain ⟨a2, c2, rfl, hl2⟩ := id hl
  have hcon := fun W s (hs : El W s st) => sl14_c (w := W) (p := p) (x := s) hs hm
  by_cases h3 : chk3 p st [] = 0
  case neg =>
    rw [chkH_non h3]
    obtain ⟨k, hk⟩ : ∃ k, k = chk3 p st [] := ⟨_, rfl⟩
    simp only [← hk] at hcon h3 ⊢
    clear hk
    have hne : (k == 0) = false := by simpa using h3
    go_enter Tryz.func94, Tryz.ntmps94
    have hb0 : Below w.heap.size w (w.alloc (.cells #[.int .i64 p, .slice a st.length c] 26)) := (by repeat (first | exact .refl _ _ | apply bwD | apply bwA | (refine bwS ?_ (by first | omega | simp <;> omega) _) | refine bwC ?_ (by assumption)))
    have hs := hs.below hb0; have hl := hl.below hb0
    have d0 : (w.alloc (.cells #[.int .i64 p, .slice a st.length c] 26)).cell? ⟨w.heap.size, 0, none⟩ = some (.int .i64 p) := by simp [go_sem]
    have d1 : (w.alloc (.cells #[.int .i64 p, .slice a st.length c] 26)).cell? ⟨w.heap.size, 1, none⟩ = some (.slice a st.length c) := by simp [go_sem]
    go_wp2_with fail
    refine (hcon _ _ hs).mono ?_; rintro e w1 ⟨rfl, hb1⟩
    have hs := hs.below hb1; have hl := hl.below hb1; have d0 := kept hb1 d0; have d1 := kept hb1 d1
    go_wp2_with fail
    go_ret
    exact ⟨rfl, (by repeat (first | exact .refl _ _ | apply bwD | apply bwA | (refine bwS ?_ (by first | omega | simp <;> omega) _) | refine bwC ?_ (by assumption)))⟩
  have hd := chk3_dok h3
  simp only [h3] at hcon
  clear h3
  rcases hl2 with rfl | ⟨b, off, rfl, hl2⟩
  · rw [chkH_ok hd rfl]
    go_enter Tryz.func94, Tryz.ntmps94
    have hb0 : Below w.heap.size w (w.alloc (.cells #[.int .i64 p, .slice a st.length c] 26)) := (by repeat (first | exact .refl _ _ | apply bwD | apply bwA | (refine bwS ?_ (by first | omega | simp <;> omega) _) | refine bwC ?_ (by assumption)))
    have hs := hs.below hb0
    have d0 : (w.alloc (.cells #[.int .i64 p, .slice a st.length c] 26)).cell? ⟨w.heap.size, 0, none⟩ = some (.int .i64 p) := by simp [go_sem]
    have d1 : (w.alloc (.cells #[.int .i64 p, .slice a st.length c] 26)).cell? ⟨w.heap.size, 1, none⟩ = some (.slice a st.length c) := by simp [go_sem]
    go_wp2_with fail
    refine (hcon _ _ hs).mono ?_; rintro e w1 ⟨rfl, hb1⟩
    have hs := hs.below hb1; have d0 := kept hb1 d0; have d1 := kept hb1 d1
    go_wp2_with fail
    refine wp_loop_rounds 1 ?_; rw [rounds_succ]
    go_wp2_with fail
    go_ret
    exact ⟨rfl, (by repeat (first | exact .refl _ _ | apply bwD | apply bwA | (refine bwS ?_ (by first | omega | simp <;> omega) _) | refine bwC ?_ (by assumption)))⟩
  go_enter Tryz.func94, Tryz.ntmps94
  have hb0 : Below w.heap.size w (w.alloc (.cells #[.int .i64 p, .slice a st.length c] 26)) := (by repeat (first | exact .refl _ _ | apply bwD | apply bwA | (refine bwS ?_ (by first | omega | simp <;> omega) _) | refine bwC ?_ (by assumption)))
  have hs := hs.below hb0
  have d0 : (w.alloc (.cells #[.int .i64 p, .slice a st.length c] 26)).cell? ⟨w.heap.size, 0, none⟩ = some (.int .i64 p) := by simp [go_sem]
  have d1 : (w.alloc (.cells #[.int .i64 p, .slice a st.length c] 26)).cell? ⟨w.heap.size, 1, none⟩ = some (.slice a st.length c) := by simp [go_sem]
  go_wp2_with fail
  refine (hcon _ _ hs).mono ?_; rintro e w1 ⟨rfl, hb1⟩
  have hs := hs.below hb1; have d0 := kept hb1 d0; have d1 := kept hb1 d1
  go_wp2_with fail
  have hwb : Below w.heap.size w w1 := (by repeat (first | exact .refl _ _ | apply bwD | apply bwA | (refine bwS ?_ (by first | omega | simp <;> omega) _) | refine bwC ?_ (by assumption)))
  go_loopw [6] (fun i wr => ∃ k : Nat, k ≤ Xs.length ∧ i = .int .i64 k ∧ (Xs.take k).all (isH p (sz st.length)) = true ∧ Below w1.heap.size w1 wr) (fun i _ => Xs.length - (intOf i).toNat)
  case atStart => exact ⟨0, Nat.zero_le _, rfl, rfl, Below.refl _ _⟩
  case round =>
    obtain ⟨k, hk, rfl, hr, hb⟩ := hrel
    by_cases hlt : k < Xs.length
    · obtain ⟨d, u, X, hX, hc0, hc1, hxv, ht⟩ := Lh.get hl2 hlt
      have hbw := bwC hwb hb
      have hc0 := kept hbw hc0
      have hc1 := kept hbw hc1
      have hxv := hxv.below hbw
      have g0 := kept hb d0
      have g1 := kept hb d1
      have gs := hs.below hb
      have hzx := hz X hX
      have H := Lib.hid (And.intro (all_snoc hr ht) (@all_no _ (isH p (sz st.length)) _ _ hX)); clear hr ht
      cases hv : isH p (sz st.length) X
      · go_wp2
        refine region_flow [(false, [(0, 1), (1, 0), (2, 0), (3, 0), (4, 1), (5, 4), (6, 0)])] (by kernel_rfl) ?_
        refine norm_K fun K hK => ?_
        change wpList _ _ _ [_, _, _, _, _, _, _] _ _
        go_wp2_with fail
        refine (sl16is_c hd (gs.below (by repeat (first | exact .refl _ _ | apply bwD | apply bwA | (refine bwS ?_ (by first | omega | simp <;> omega) _) | refine bwC ?_ (by assumption)))) (hxv.below (by repeat (first | exact .refl _ _ | apply bwD | apply bwA | (refine bwS ?_ (by first | omega | simp <;> omega) _) | refine bwC ?_ (by assumption)))) hzx).mono ?_; rintro e w2 ⟨rfl, hb2⟩; simp only [hv]
        go_wp2_with fail
        first | (refine hK _ _ ⟨rfl, ?_⟩; clear hK K) | refine ⟨rfl, ?_⟩
        go_wp2_with fail
        go_ret
        exact ⟨by rw [chkH_ran hd (H.out.2 hv)]; rfl, bwC hbw.drew hb2⟩
      · go_wp2
        refine region_flow [(false, [(0, 1), (1, 0), (2, 0), (3, 0), (4, 1), (5, 4), (6, 0)])] (by kernel_rfl) ?_
        refine norm_K fun K hK => ?_
        change wpList _ _ _ [_, _, _, _, _, _, _] _ _
        go_wp2_with fail
        refine (sl16is_c hd (gs.below (by repeat (first | exact .refl _ _ | apply bwD | apply bwA | (refine bwS ?_ (by first | omega | simp <;> omega) _) | refine bwC ?_ (by assumption)))) (hxv.below (by repeat (first | exact .refl _ _ | apply bwD | apply bwA | (refine bwS ?_ (by first | omega | simp <;> omega) _) | refine bwC ?_ (by assumption)))) hzx).mono ?_; rintro e w2 ⟨rfl, hb2⟩; simp only [hv]
        go_wp2_with fail
        first | (refine hK _ _ ⟨rfl, ?_⟩; clear hK K) | refine ⟨rfl, ?_⟩
        go_wp2_with fail
        go_roundw
        case rel => exact ⟨k + 1, by omega, by go_num, by rw [H.out.1, hv], bwC hb.drew hb2⟩
        case measure => simp [intOf]; omega
    · have e : Xs.take k = Xs := take_all (by omega)
      rw [e] at hr
      have H := Lib.hid hr; clear hr e
      go_wp2
      go_ret
      exact ⟨by rw [chkH_ok hd H.out]; rfl, bwC hwb hb⟩
end Go.Proofs.YtgcelfnjijhmkaaGreat
