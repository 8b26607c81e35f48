/-
  The reference's equality of matrices and idempotents; multiples.
-/
import Derived.Test.YtmplpoccalccoaaGreatJbd
namespace Go.Proofs.YtmplpoccalccoaaGreat
open Go.RowKit

theorem sameB_eq {p : Int} {n : Nat} {X Y : Her} (hX : isH p n X = true) (hY : isH p n Y = true) : sameB X Y = (decide (X.dg = Y.dg) && decide (X.up = Y.up)) := by
  unfold sameB
  have h : numsH X = numsH Y ↔ X.dg = Y.dg ∧ X.up = Y.up := by
    constructor
    · intro h
      have e : X = Y := by rw [← split_nums hX, ← split_nums hY, h]
      rw [e]; exact ⟨rfl, rfl⟩
    · rintro ⟨h1, h2⟩
      unfold numsH; rw [h1, h2]
  rw [Bool.eq_iff_iff]
  simp [h]
set_option maxHeartbeats 1000000 in
theorem same2_c {x y : Value} {xss yss : List (List Int)} {w : World} (hx : Re w x xss) (hy : Re w y yss) (hl : yss.length = xss.length) (hm : xss.length ≤ 1000) (hrx : ∀ xs ∈ xss, xs.length ≤ 1000) (hry : ∀ xs ∈ yss, xs.length ≤ 1000) :
    Calls Tryz.prog 69 #[x, y] w fun e w' => e = .returned (.bool (decide (xss = yss))) ∧ Below w.heap.size w w' := by
  obtain ⟨a, c, rfl, _, _, hx⟩ := hx
  obtain ⟨a2, c2, rfl, _, _, hy⟩ := hy
  rcases hx with rfl | ⟨b, off, rfl, hx⟩
  · obtain rfl : yss = [] := List.length_eq_zero_iff.1 hl
    go_enter Tryz.func69, Tryz.ntmps69
    go_wp2
    refine wp_loop_rounds 1 ?_; rw [rounds_succ]
    go_wp2
    go_ret
    exact ⟨rfl, Below.refl _ _⟩
  rcases hy with rfl | ⟨b2, off2, rfl, hy⟩
  · obtain rfl : xss = [] := List.length_eq_zero_iff.1 hl.symm
    go_enter Tryz.func69, Tryz.ntmps69
    go_wp2
    refine wp_loop_rounds 1 ?_; rw [rounds_succ]
    go_wp2
    go_ret
    exact ⟨rfl, Below.refl _ _⟩
  have HL := Lib.hid hl
  have HX := Lib.hid hx; have HY := Lib.hid hy
  rw [hl]
  clear hx hy hl
  go_enter Tryz.func69, Tryz.ntmps69
  go_wp2
  go_loopw [5] (fun i wr => ∃ m : Nat, m ≤ xss.length ∧ i = .int .i64 m ∧ xss.take m = yss.take m ∧ Below w.heap.size w wr)
    (fun i _ => xss.length - (intOf i).toNat)
  case atStart => exact ⟨0, Nat.zero_le _, rfl, rfl, Below.refl _ _⟩
  case round =>
    obtain ⟨m, hm', rfl, heq, hb⟩ := hrel
    by_cases hlt : m < xss.length
    · have hlt2 : m < yss.length := by rw [HL.out]; exact hlt
      obtain ⟨u1, hc1, he1⟩ := HX.out m hlt
      obtain ⟨u2, hc2, he2⟩ := HY.out m hlt2
      have t1 := List.take_succ_eq_append_getElem hlt
      have t2 := List.take_succ_eq_append_getElem hlt2
      have l1 := hrx _ (List.getElem_mem hlt)
      have l2 := hry _ (List.getElem_mem hlt2)
      have hne : xss[m] ≠ yss[m] → decide (xss = yss) = false := fun h => decide_eq_false fun e => h (by subst e; rfl)
      obtain ⟨xs, hxs⟩ : ∃ q, q = xss[m] := ⟨_, rfl⟩
      obtain ⟨ys, hys⟩ : ∃ q, q = yss[m] := ⟨_, rfl⟩
      rw [← hxs] at he1 t1 l1 hne
      rw [← hys] at he2 t2 l2 hne
      clear hxs hys
      have H := Lib.hid (And.intro t1 (And.intro t2 heq)); clear t1 t2 heq
      obtain ⟨a3, c3, rfl, _⟩ := he1.op
      obtain ⟨a4, c4, rfl, _⟩ := he2.op
      have hc1 := kept hb hc1; have hc2 := kept hb hc2; have he1 := he1.below hb; have he2 := he2.below hb
      by_cases hxy : xs = ys
      · subst hxy
        have hd : decide (xs = xs) = true := decide_eq_true rfl
        go_wp2_with fail
        go_wp2_with fail
        refine region_flow [(false, [(0, 0), (1, 0), (2, 0), (3, 1), (4, 0), (5, 0), (6, 0), (7, 1), (8, 4), (9, 0)])] (by kernel_rfl) ?_
        refine norm_K fun K hK => ?_
        change wpList _ _ _ [_, _, _, _, _, _, _, _, _, _] _ _
        have hb21 : Below wr.heap.size wr wr.drew := (by repeat (first | exact Below.refl _ _ | apply blw_drew | apply blw_alloc | (refine blw_set ?_ (by first | omega | (simp; done) | (simp; omega)) _) | refine below_chain ?_ (by assumption)))
        have hc1 := kept hb21 hc1; have hc2 := kept hb21 hc2; have he1 := he1.below hb21; have he2 := he2.below hb21
        go_wp2_with fail
        refine (same_c he1.sl he2.sl (by omega) (by omega)).mono ?_; rintro e w22 ⟨rfl, hb22⟩
        have hc1 := kept hb22 hc1; have hc2 := kept hb22 hc2; have he1 := he1.below hb22; have he2 := he2.below hb22
        simp only [hd]
        go_wp2_with fail
        first | (refine hK _ _ ⟨rfl, ?_⟩; clear hK K) | refine ⟨rfl, ?_⟩
        go_wp2_with fail
        go_roundw
        case rel => exact ⟨m + 1, by omega, by go_num, by rw [H.out.1, H.out.2.1, H.out.2.2], below_chain hb (by repeat (first | exact Below.refl _ _ | apply blw_drew | apply blw_alloc | (refine blw_set ?_ (by first | omega | (simp; done) | (simp; omega)) _) | refine below_chain ?_ (by assumption)))⟩
        case measure => simp [intOf]; omega
      · have hd : decide (xs = ys) = false := decide_eq_false hxy
        have HD := Lib.hid (hne hxy); clear hne
        go_wp2_with fail
        go_wp2_with fail
        refine region_flow [(false, [(0, 0), (1, 0), (2, 0), (3, 1), (4, 0), (5, 0), (6, 0), (7, 1), (8, 4), (9, 0)])] (by kernel_rfl) ?_
        refine norm_K fun K hK => ?_
        change wpList _ _ _ [_, _, _, _, _, _, _, _, _, _] _ _
        have hb21 : Below wr.heap.size wr wr.drew := (by repeat (first | exact Below.refl _ _ | apply blw_drew | apply blw_alloc | (refine blw_set ?_ (by first | omega | (simp; done) | (simp; omega)) _) | refine below_chain ?_ (by assumption)))
        have hc1 := kept hb21 hc1; have hc2 := kept hb21 hc2; have he1 := he1.below hb21; have he2 := he2.below hb21
        go_wp2_with fail
        refine (same_c he1.sl he2.sl (by omega) (by omega)).mono ?_; rintro e w22 ⟨rfl, hb22⟩
        have hc1 := kept hb22 hc1; have hc2 := kept hb22 hc2; have he1 := he1.below hb22; have he2 := he2.below hb22
        simp only [hd]
        go_wp2_with fail
        first | (refine hK _ _ ⟨rfl, ?_⟩; clear hK K) | refine ⟨rfl, ?_⟩
        go_wp2_with fail
        go_ret
        exact ⟨by rw [HD.out]; rfl, below_chain hb (by repeat (first | exact Below.refl _ _ | apply blw_drew | apply blw_alloc | (refine blw_set ?_ (by first | omega | (simp; done) | (simp; omega)) _) | refine below_chain ?_ (by assumption)))⟩
    · obtain rfl : m = xss.length := by omega
      rw [take_all (Nat.le_refl _), take_all (by rw [HL.out]; exact Nat.le_refl _)] at heq
      have HD := Lib.hid (decide_eq_true heq); clear heq
      go_wp2
      go_ret
      exact ⟨by rw [HD.out]; rfl, hb⟩
theorem sames_c {p : Int} {n : Nat} {x y : Value} {X Y : Her} {w : World} (hx : Hv w x X) (hX : isH p n X = true) (hy : Hv w y Y) (hY : isH p n Y = true) (hn2 : n ≤ 8) :
    Calls Tryz.prog 41 #[x, y] w fun e w' => e = .returned (.bool (sameB X Y)) ∧ Below w.heap.size w w' := by
  rw [sameB_eq hX hY]
  obtain ⟨x1, _, x3, x4⟩ := isH_parts hX
  obtain ⟨y1, _, y3, y4⟩ := isH_parts hY
  obtain ⟨dv1, uv1, rfl, hd1, hu1⟩ := id hx; obtain ⟨a1, c1, rfl, _⟩ := id hd1.op; obtain ⟨b1, k1, rfl, _⟩ := id hu1
  obtain ⟨dv2, uv2, rfl, hd2, hu2⟩ := id hy; obtain ⟨a2, c2, rfl, _⟩ := id hd2.op; obtain ⟨b2, k2, rfl, _⟩ := id hu2
  have X1 := Lib.hid x1; have X3 := Lib.hid x3; have Y1 := Lib.hid y1; have Y3 := Lib.hid y3
  have rx : ∀ xs ∈ X.up, xs.length ≤ 1000 := fun xs h => by rw [(x4 xs h).1]; omega
  have ry : ∀ xs ∈ Y.up, xs.length ≤ 1000 := fun xs h => by rw [(y4 xs h).1]; omega
  clear x1 x3 y1 y3 x4 y4 hx hy
  cases hv : decide (X.dg = Y.dg)
  all_goals
    go_enter Tryz.func41, Tryz.ntmps41
    have hb0 : Below w.heap.size w ((w.alloc (.cells #[.slice a1 X.dg.length c1, .slice b1 X.up.length k1] 34)).alloc (.cells #[.slice a2 Y.dg.length c2, .slice b2 Y.up.length k2] 34)) := (by repeat (first | exact Below.refl _ _ | apply blw_drew | apply blw_alloc | (refine blw_set ?_ (by first | omega | (simp; done) | (simp; omega)) _) | refine below_chain ?_ (by assumption)))
    have hd1 := hd1.below hb0; have hd2 := hd2.below hb0; have hu1 := hu1.below hb0; have hu2 := hu2.below hb0
    have e0 : ((w.alloc (.cells #[.slice a1 X.dg.length c1, .slice b1 X.up.length k1] 34)).alloc (.cells #[.slice a2 Y.dg.length c2, .slice b2 Y.up.length k2] 34)).cell? ⟨w.heap.size, 0, none⟩ = some (.slice a1 X.dg.length c1) := by simp [go_sem]
    have e1 : ((w.alloc (.cells #[.slice a1 X.dg.length c1, .slice b1 X.up.length k1] 34)).alloc (.cells #[.slice a2 Y.dg.length c2, .slice b2 Y.up.length k2] 34)).cell? ⟨w.heap.size, 1, none⟩ = some (.slice b1 X.up.length k1) := by simp [go_sem]
    have f0 : ((w.alloc (.cells #[.slice a1 X.dg.length c1, .slice b1 X.up.length k1] 34)).alloc (.cells #[.slice a2 Y.dg.length c2, .slice b2 Y.up.length k2] 34)).cell? ⟨w.heap.size + 1, 0, none⟩ = some (.slice a2 Y.dg.length c2) := by simp [go_sem]
    have f1 : ((w.alloc (.cells #[.slice a1 X.dg.length c1, .slice b1 X.up.length k1] 34)).alloc (.cells #[.slice a2 Y.dg.length c2, .slice b2 Y.up.length k2] 34)).cell? ⟨w.heap.size + 1, 1, none⟩ = some (.slice b2 Y.up.length k2) := by simp [go_sem]
    go_wp2_with fail
    refine (same_c hd1.sl hd2.sl (by rw [X1.out]; omega) (by rw [Y1.out]; omega)).mono ?_; rintro e w1 ⟨rfl, hb1⟩
    have hd1 := hd1.below hb1; have hd2 := hd2.below hb1; have hu1 := hu1.below hb1; have hu2 := hu2.below hb1; have e0 := kept hb1 e0; have e1 := kept hb1 e1; have f0 := kept hb1 f0; have f1 := kept hb1 f1
    simp only [hv]
    go_wp2_with fail
    first
      | (go_ret; exact ⟨rfl, (by repeat (first | exact Below.refl _ _ | apply blw_drew | apply blw_alloc | (refine blw_set ?_ (by first | omega | (simp; done) | (simp; omega)) _) | refine below_chain ?_ (by assumption)))⟩)
      | (refine (same2_c hu1 hu2 (by rw [X3.out, Y3.out]) (by rw [X3.out]; omega) rx ry).mono ?_; rintro e w9 ⟨rfl, hb9⟩; go_wp2_with fail; go_ret; exact ⟨rfl, (by repeat (first | exact Below.refl _ _ | apply blw_drew | apply blw_alloc | (refine blw_set ?_ (by first | omega | (simp; done) | (simp; omega)) _) | refine below_chain ?_ (by assumption)))⟩)
theorem sidem_c {p : Int} {s x : Value} {st : List Int} {X : Her} {w : World} (hd : Dok p st) (hs : El w s st) (hx : Hv w x X) (hX : isH p (sz st.length) X = true) :
    Calls Tryz.prog 20 #[.agg #[.int .i64 p, s], x] w fun e w' => e = .returned (.bool (idemH p st X)) ∧ Below w.heap.size w w' := by
  have hp1 := hd.hp.lo
  have hsz := sz_le hd
  have hJ := jordanH_is (p := p) (by omega) hX hX
  obtain ⟨a0, c0, rfl, _⟩ := id hs.op
  obtain ⟨dv1, uv1, rfl, hd1, hu1⟩ := id hx; obtain ⟨a1, c1, rfl, _⟩ := id hd1.op; obtain ⟨b1, k1, rfl, _⟩ := id hu1
  unfold idemH
  go_enter Tryz.func20, Tryz.ntmps20
  have hb0 : Below w.heap.size w ((w.alloc (.cells #[.int .i64 p, .slice a0 st.length c0] 32)).alloc (.cells #[.slice a1 X.dg.length c1, .slice b1 X.up.length k1] 34)) := (by repeat (first | exact Below.refl _ _ | apply blw_drew | apply blw_alloc | (refine blw_set ?_ (by first | omega | (simp; done) | (simp; omega)) _) | refine below_chain ?_ (by assumption)))
  have hs := hs.below hb0; have hx := hx.below hb0
  have d0 : ((w.alloc (.cells #[.int .i64 p, .slice a0 st.length c0] 32)).alloc (.cells #[.slice a1 X.dg.length c1, .slice b1 X.up.length k1] 34)).cell? ⟨w.heap.size, 0, none⟩ = some (.int .i64 p) := by simp [go_sem]
  have d1 : ((w.alloc (.cells #[.int .i64 p, .slice a0 st.length c0] 32)).alloc (.cells #[.slice a1 X.dg.length c1, .slice b1 X.up.length k1] 34)).cell? ⟨w.heap.size, 1, none⟩ = some (.slice a0 st.length c0) := by simp [go_sem]
  have e0 : ((w.alloc (.cells #[.int .i64 p, .slice a0 st.length c0] 32)).alloc (.cells #[.slice a1 X.dg.length c1, .slice b1 X.up.length k1] 34)).cell? ⟨w.heap.size + 1, 0, none⟩ = some (.slice a1 X.dg.length c1) := by simp [go_sem]
  have e1 : ((w.alloc (.cells #[.int .i64 p, .slice a0 st.length c0] 32)).alloc (.cells #[.slice a1 X.dg.length c1, .slice b1 X.up.length k1] 34)).cell? ⟨w.heap.size + 1, 1, none⟩ = some (.slice b1 X.up.length k1) := by simp [go_sem]
  go_wp2_with fail
  refine region_flow [(false, [(0, 1), (1, 1), (2, 1), (4, 1), (3, 5)]), (false, [(5, 4), (6, 0)])] (by kernel_rfl) ?_
  refine norm_K fun K hK => ?_
  change wpList _ _ _ [_, _, _, _, _] _ _
  have hb1 : Below ((w.alloc (.cells #[.int .i64 p, .slice a0 st.length c0] 32)).alloc (.cells #[.slice a1 X.dg.length c1, .slice b1 X.up.length k1] 34)).heap.size ((w.alloc (.cells #[.int .i64 p, .slice a0 st.length c0] 32)).alloc (.cells #[.slice a1 X.dg.length c1, .slice b1 X.up.length k1] 34)) ((w.alloc (.cells #[.int .i64 p, .slice a0 st.length c0] 32)).alloc (.cells #[.slice a1 X.dg.length c1, .slice b1 X.up.length k1] 34)).drew := (by repeat (first | exact Below.refl _ _ | apply blw_drew | apply blw_alloc | (refine blw_set ?_ (by first | omega | (simp; done) | (simp; omega)) _) | refine below_chain ?_ (by assumption)))
  have hs := hs.below hb1; have hx := hx.below hb1; have d0 := kept hb1 d0; have d1 := kept hb1 d1; have e0 := kept hb1 e0; have e1 := kept hb1 e1
  generalize ((w.alloc (.cells #[.int .i64 p, .slice a0 st.length c0] 32)).alloc (.cells #[.slice a1 X.dg.length c1, .slice b1 X.up.length k1] 34)).drew = wq at *
  go_wp2_with fail
  refine (stimes16_c hd hs hx hX hx hX).mono ?_; rintro e w2 ⟨v1, rfl, h1, hb2⟩
  have hs := hs.below hb2; have hx := hx.below hb2; have d0 := kept hb2 d0; have d1 := kept hb2 d1; have e0 := kept hb2 e0; have e1 := kept hb2 e1
  go_wp2_with fail
  have hz0 : Below wq.heap.size wq w2 := (by repeat (first | exact Below.refl _ _ | apply blw_drew | apply blw_alloc | (refine blw_set ?_ (by first | omega | (simp; done) | (simp; omega)) _) | refine below_chain ?_ (by assumption)))
  first | (refine hK _ _ ⟨hz0, ?_⟩; clear hK K) | refine ⟨hz0, ?_⟩
  clear hz0
  refine norm_K fun K hK => ?_
  change wpList _ _ _ [_, _] _ _
  go_wp2_with fail
  refine (sames_c h1.hv hJ hx hX hsz.2).mono ?_; rintro e w3 ⟨rfl, hb3⟩
  have hs := hs.below hb3; have hx := hx.below hb3; have d0 := kept hb3 d0; have d1 := kept hb3 d1; have e0 := kept hb3 e0; have e1 := kept hb3 e1; have h1 := h1.below hb3
  go_wp2_with fail
  first | (refine hK _ _ ⟨rfl, ?_⟩; clear hK K) | refine ⟨rfl, ?_⟩
  go_wp2_with fail
  go_ret
  exact ⟨rfl, (by repeat (first | exact Below.refl _ _ | apply blw_drew | apply blw_alloc | (refine blw_set ?_ (by first | omega | (simp; done) | (simp; omega)) _) | refine below_chain ?_ (by assumption)))⟩
end Go.Proofs.YtmplpoccalccoaaGreat
