/-
  The reference's checks of doublings and of elements.
-/
import Derived.Test.YtgkceadllcjeoaaDbB
namespace Go.Proofs.Ytgkceadllcjeoaa
open Go.RowKit

def okS (p : Int) (st : List Int) : Bool := st.all fun s => inR s 1 (p - 1)
theorem isD_ok {p : Int} {st : List Int} (h : prB p = true) (h2 : st.length ≤ 4) : isD p st = okS p st := by
  unfold isD okS
  rw [h, decide_eq_true h2]; rfl
theorem sisd_c {p : Int} {x : Value} {st : List Int} {w : World} (hx : Sl w x st) (hm : st.length ≤ 1048576) :
    Calls Try.prog 129 #[.agg #[.int .i64 p, x]] w fun e w' => e = .returned (.bool (isD p st)) ∧ Below w.heap.size w w' := by
  obtain ⟨a, c, rfl, hx'⟩ := id hx
  cases h1 : prB p
  · have HS := Lib.hid (isD_no1 (st := st) h1)
    go_enter Try.func129, Try.ntmps129
    go_wp2_with (go_at_call 139; refine sprime_c.mono ?_; rintro e w1 ⟨rfl, rfl⟩; simp only [h1])
    go_ret
    exact ⟨by rw [HS.out]; rfl, (by repeat (first | exact .refl _ _ | apply bwD | apply bwA | (refine bwS ?_ (by first | omega | simp <;> omega) _) | refine bwC ?_ (by assumption)))⟩
  have hp := prB_iff.1 h1
  have hp1 := hp.lo
  have hp2 := hp.hi
  by_cases h2 : st.length ≤ 4
  case neg =>
    have HS := Lib.hid (isD_no2 (p := p) h2)
    have h2' : decide ((4 : Int) < (st.length : Int)) = true := by simp; omega
    go_enter Try.func129, Try.ntmps129
    go_wp2_with (go_at_call 139; refine sprime_c.mono ?_; rintro e w1 ⟨rfl, rfl⟩; simp only [h1])
    go_ret
    exact ⟨by rw [HS.out]; rfl, (by repeat (first | exact .refl _ _ | apply bwD | apply bwA | (refine bwS ?_ (by first | omega | simp <;> omega) _) | refine bwC ?_ (by assumption)))⟩
  have h2' : decide ((4 : Int) < (st.length : Int)) = false := by simp; omega
  have HS := Lib.hid (isD_ok h1 h2)
  rcases hx' with rfl | ⟨b, off, rfl, hA⟩
  · go_enter Try.func129, Try.ntmps129
    go_wp2_with (go_at_call 139; refine sprime_c.mono ?_; rintro e w1 ⟨rfl, rfl⟩; simp only [h1])
    refine wp_loop_rounds 1 ?_; rw [rounds_succ]
    go_wp2_with fail
    go_ret
    exact ⟨by rw [HS.out]; rfl, (by repeat (first | exact .refl _ _ | apply bwD | apply bwA | (refine bwS ?_ (by first | omega | simp <;> omega) _) | refine bwC ?_ (by assumption)))⟩
  have hW : Below w.heap.size w (w.alloc (.cells #[.int .i64 p, .slice (some ⟨b, off, none⟩) st.length c] 26)) := (by repeat (first | exact .refl _ _ | apply bwD | apply bwA | (refine bwS ?_ (by first | omega | simp <;> omega) _) | refine bwC ?_ (by assumption)))
  have hA := hA.below hW
  have d0 : (w.alloc (.cells #[.int .i64 p, .slice (some ⟨b, off, none⟩) st.length c] 26)).cell? ⟨w.heap.size, 0, none⟩ = some (.int .i64 p) := by simp [go_sem]
  have d1 : (w.alloc (.cells #[.int .i64 p, .slice (some ⟨b, off, none⟩) st.length c] 26)).cell? ⟨w.heap.size, 1, none⟩ = some (.slice (some ⟨b, off, none⟩) st.length c) := by simp [go_sem]
  obtain ⟨W, hWe⟩ : ∃ W, W = w.alloc (.cells #[.int .i64 p, .slice (some ⟨b, off, none⟩) st.length c] 26) := ⟨_, rfl⟩
  have HW := Lib.hid hWe
  rw [← hWe] at hA d0 d1 hW
  clear hWe
  go_enter Try.func129, Try.ntmps129
  go_wp2_with (go_at_call 139; refine sprime_c.mono ?_; rintro e w1 ⟨rfl, rfl⟩; simp only [h1])
  rw [← HW.out]
  go_loopw [3] (fun i wr => ∃ k : Nat, k ≤ st.length ∧ i = .int .i64 k ∧ okS p (st.take k) = true ∧ Below W.heap.size W wr) (fun i _ => st.length - (intOf i).toNat)
  case atStart => exact ⟨0, Nat.zero_le _, rfl, rfl, Below.refl _ _⟩
  case round =>
    obtain ⟨k, hk, rfl, hr, hb⟩ := hrel
    have g0 := kept hb d0
    have g1 := kept hb d1
    by_cases hlt : k < st.length
    · obtain ⟨z, hz, hc, ht⟩ := (hA.below hb).get hlt
      have H := Lib.hid (And.intro (all_snoc (f := fun s => inR s 1 (p - 1)) hr ht) (@all_no _ (fun s => inR s 1 (p - 1)) _ _ hz)); clear hr ht
      cases hv : inR z 1 (p - 1)
      · go_wp2
        refine region_flow [(false, [(0, 0), (1, 1), (2, 0), (3, 0), (4, 1), (5, 0), (6, 1), (7, 0), (8, 4), (9, 0)])] (by kernel_rfl) ?_
        refine norm_K fun K hK => ?_
        change wpList _ _ _ [_, _, _, _, _, _, _, _, _, _] _ _
        go_wp2_with fail
        refine sin_c.mono ?_; rintro e w2 ⟨rfl, rfl⟩; simp only [hv]
        go_wp2_with fail
        first | (refine hK _ _ ⟨rfl, ?_⟩; clear hK K) | refine ⟨rfl, ?_⟩
        go_wp2_with fail
        go_ret
        exact ⟨by rw [HS.out, show okS p st = false from H.out.2 hv]; rfl, bwC hW hb.drew⟩
      · go_wp2
        refine region_flow [(false, [(0, 0), (1, 1), (2, 0), (3, 0), (4, 1), (5, 0), (6, 1), (7, 0), (8, 4), (9, 0)])] (by kernel_rfl) ?_
        refine norm_K fun K hK => ?_
        change wpList _ _ _ [_, _, _, _, _, _, _, _, _, _] _ _
        go_wp2_with fail
        refine sin_c.mono ?_; rintro e w2 ⟨rfl, rfl⟩; simp only [hv]
        go_wp2_with fail
        first | (refine hK _ _ ⟨rfl, ?_⟩; clear hK K) | refine ⟨rfl, ?_⟩
        go_wp2_with fail
        go_roundw
        case rel => exact ⟨k + 1, by omega, by go_num, by unfold okS; rw [H.out.1, hv], hb.drew⟩
        case measure => simp [intOf]; omega
    · have e : st.take k = st := take_all (by omega)
      rw [e] at hr
      have H := Lib.hid hr; clear hr e
      go_wp2
      go_ret
      exact ⟨by rw [HS.out, H.out]; rfl, bwC hW hb⟩
theorem selem_c {p : Int} {x y : Value} {st xs : List Int} {w : World} (hx : El w x st) (hy : El w y xs) (hl : st.length ≤ 4) (hm : xs.length ≤ 1048576) (hp : 0 ≤ p) (hp2 : p ≤ 1000) :
    Calls Try.prog 130 #[.agg #[.int .i64 p, x], y] w fun e w' => e = .returned (.bool (isE p (sz st.length) xs)) ∧ Below w.heap.size w w' := by
  obtain ⟨a0, c0, rfl, _⟩ := id hx.op
  obtain ⟨a, c, rfl, _, _, hy'⟩ := id hy.op
  have hpw := pow_le hl
  have hE : isE p (sz st.length) xs = (decide (xs.length = sz st.length) && isL p xs) := rfl
  obtain ⟨s, hs⟩ : ∃ s, s = decide (xs.length = sz st.length) := ⟨_, rfl⟩
  have hcmp : ((xs.length : Int) == ((sz st.length : Nat) : Int)) = s := by
    rw [hs, Bool.eq_iff_iff, beq_iff_eq, decide_eq_true_eq]; omega
  rw [← hs] at hE
  have HE := Lib.hid hE; clear hE hs
  rcases hy' with rfl | ⟨b, off, rfl, hy'⟩
  · have HE2 := Lib.hid (show isE p (sz st.length) [] = s by rw [HE.out]; exact Bool.and_true _)
    go_enter Try.func130, Try.ntmps130
    go_wp2
    refine wp_loop_rounds 1 ?_; rw [rounds_succ]
    go_wp2_with fail
    refine (ssize_c hl).mono ?_; rintro e w1 ⟨rfl, hb1⟩
    have hcmp := hcmp
    go_wp2_with fail
    go_ret
    exact ⟨by rw [HE2.out]; simpa using hcmp, (by repeat (first | exact .refl _ _ | apply bwD | apply bwA | (refine bwS ?_ (by first | omega | simp <;> omega) _) | refine bwC ?_ (by assumption)))⟩
  have hW : Below w.heap.size w (w.alloc (.cells #[.int .i64 p, .slice a0 st.length c0] 26)) := (by repeat (first | exact .refl _ _ | apply bwD | apply bwA | (refine bwS ?_ (by first | omega | simp <;> omega) _) | refine bwC ?_ (by assumption)))
  have hy := hy'.below hW
  have d0 : (w.alloc (.cells #[.int .i64 p, .slice a0 st.length c0] 26)).cell? ⟨w.heap.size, 0, none⟩ = some (.int .i64 p) := by simp [go_sem]
  have d1 : (w.alloc (.cells #[.int .i64 p, .slice a0 st.length c0] 26)).cell? ⟨w.heap.size, 1, none⟩ = some (.slice a0 st.length c0) := by simp [go_sem]
  obtain ⟨W, hWe⟩ : ∃ W, W = w.alloc (.cells #[.int .i64 p, .slice a0 st.length c0] 26) := ⟨_, rfl⟩
  have HW := Lib.hid hWe
  rw [← hWe] at hy d0 d1 hW
  clear hWe
  go_enter Try.func130, Try.ntmps130
  go_wp2
  rw [← HW.out]
  go_loopw [5] (fun i wr => ∃ k : Nat, k ≤ xs.length ∧ i = .int .i64 k ∧ isL p (xs.take k) = true ∧ Below W.heap.size W wr) (fun i _ => xs.length - (intOf i).toNat)
  case atStart => exact ⟨0, Nat.zero_le _, rfl, rfl, Below.refl _ _⟩
  case round =>
    obtain ⟨k, hk, rfl, hr, hb⟩ := hrel
    have g0 := kept hb d0
    have g1 := kept hb d1
    by_cases hlt : k < xs.length
    · obtain ⟨z, hz, hc, ht⟩ := (hy.below hb).get hlt
      have H := Lib.hid (And.intro (all_snoc (f := fun n => inR n 0 (p - 1)) hr ht) (@all_no _ (fun n => inR n 0 (p - 1)) _ _ hz)); clear hr ht
      cases hv : inR z 0 (p - 1)
      · go_wp2
        refine region_flow [(false, [(0, 0), (1, 0), (2, 0), (3, 1), (4, 0), (5, 1), (6, 0), (7, 4), (8, 0)])] (by kernel_rfl) ?_
        refine norm_K fun K hK => ?_
        change wpList _ _ _ [_, _, _, _, _, _, _, _, _] _ _
        go_wp2_with fail
        refine sin_c.mono ?_; rintro e w2 ⟨rfl, rfl⟩; simp only [hv]
        go_wp2_with fail
        first | (refine hK _ _ ⟨rfl, ?_⟩; clear hK K) | refine ⟨rfl, ?_⟩
        go_wp2_with fail
        go_ret
        exact ⟨by rw [HE.out, show isL p xs = false from H.out.2 hv, Bool.and_false]; rfl, bwC hW hb.drew⟩
      · go_wp2
        refine region_flow [(false, [(0, 0), (1, 0), (2, 0), (3, 1), (4, 0), (5, 1), (6, 0), (7, 4), (8, 0)])] (by kernel_rfl) ?_
        refine norm_K fun K hK => ?_
        change wpList _ _ _ [_, _, _, _, _, _, _, _, _] _ _
        go_wp2_with fail
        refine sin_c.mono ?_; rintro e w2 ⟨rfl, rfl⟩; simp only [hv]
        go_wp2_with fail
        first | (refine hK _ _ ⟨rfl, ?_⟩; clear hK K) | refine ⟨rfl, ?_⟩
        go_wp2_with fail
        go_roundw
        case rel => exact ⟨k + 1, by omega, by go_num, by unfold isL; rw [H.out.1, hv], hb.drew⟩
        case measure => simp [intOf]; omega
    · have e : xs.take k = xs := take_all (by omega)
      rw [e] at hr
      have H := Lib.hid hr; clear hr e
      go_wp2_with fail
      refine (ssize_c hl).mono ?_; rintro e w1 ⟨rfl, hb1⟩
      go_wp2_with fail
      go_ret
      exact ⟨by rw [HE.out, H.out, Bool.and_true]; rfl, bwC hW (bwC hb hb1)⟩
theorem sl11_c {p : Int} {x l : Value} {st : List Int} {xss : List (List Int)} {w : World} (hx : El w x st) (hl : Re w l xss) (hm : st.length ≤ 1048576) (hm1 : xss.length ≤ 1048576) (hm2 : ∀ xs ∈ xss, xs.length ≤ 1048576) :
    Calls Try.prog 98 #[.agg #[.int .i64 p, x], l] w fun e w' => e = .returned (.int .i64 (chkE p st xss)) ∧ Below w.heap.size w w' := by
  obtain ⟨a, c, rfl, _⟩ := id hx.op
  obtain ⟨a2, c2, rfl, _, _, hl2⟩ := id hl
  have hx1 := hx.below (w' := w.alloc (.cells #[.int .i64 p, .slice a st.length c] 26)) (by repeat (first | exact .refl _ _ | apply bwD | apply bwA | (refine bwS ?_ (by first | omega | simp <;> omega) _) | refine bwC ?_ (by assumption)))
  cases h1 : isD p st
  · rw [chkE_no h1]
    go_enter Try.func98, Try.ntmps98
    go_wp2_with (go_at_call 129; refine (sisd_c hx1.sl hm).mono ?_; rintro e w1 ⟨rfl, hb1⟩; simp only [h1])
    go_ret
    exact ⟨rfl, (by repeat (first | exact .refl _ _ | apply bwD | apply bwA | (refine bwS ?_ (by first | omega | simp <;> omega) _) | refine bwC ?_ (by assumption)))⟩
  obtain ⟨hp, hl4, _⟩ := isD_iff.1 h1
  have hp1 := hp.lo
  have hp2 := hp.hi
  rcases hl2 with rfl | ⟨b, off, rfl, hl2⟩
  · rw [chkE_ok h1 rfl]
    go_enter Try.func98, Try.ntmps98
    go_wp2_with (go_at_call 129; refine (sisd_c hx1.sl hm).mono ?_; rintro e w1 ⟨rfl, hb1⟩; simp only [h1]; obtain ⟨d0, d1⟩ := boxed hb1)
    refine wp_loop_rounds 1 ?_; rw [rounds_succ]
    go_wp2_with fail
    go_ret
    exact ⟨rfl, (by repeat (first | exact .refl _ _ | apply bwD | apply bwA | (refine bwS ?_ (by first | omega | simp <;> omega) _) | refine bwC ?_ (by assumption)))⟩
  go_enter Try.func98, Try.ntmps98
  go_wp2_with (go_at_call 129; refine (sisd_c hx1.sl hm).mono ?_; rintro e w1 ⟨rfl, hb1⟩; simp only [h1]; obtain ⟨d0, d1⟩ := boxed hb1)
  have hx2 := hx1.below hb1
  have hwb : Below w.heap.size w w1 := (by repeat (first | exact .refl _ _ | apply bwD | apply bwA | (refine bwS ?_ (by first | omega | simp <;> omega) _) | refine bwC ?_ (by assumption)))
  go_loopw [5] (fun i wr => ∃ k : Nat, k ≤ xss.length ∧ i = .int .i64 k ∧ (xss.take k).all (isE p (sz st.length)) = true ∧ Below w1.heap.size w1 wr) (fun i _ => xss.length - (intOf i).toNat)
  case atStart => exact ⟨0, Nat.zero_le _, rfl, rfl, Below.refl _ _⟩
  case round =>
    obtain ⟨k, hk, rfl, hr, hb⟩ := hrel
    by_cases hlt : k < xss.length
    · obtain ⟨a1, c1, xs, hxs, hc0, hs0, ht⟩ := Re.get hl2 hlt
      have hbw := bwC hwb hb
      have hc := kept hbw hc0
      have hs := hs0.below hbw
      have g0 := kept hb d0
      have g1 := kept hb d1
      have gx := hx2.below hb
      have hmx := hm2 xs hxs
      have H := Lib.hid (And.intro (all_snoc hr ht) (@all_no _ (isE p (sz st.length)) _ _ hxs)); clear hr ht
      cases hv : isE p (sz st.length) xs
      · go_wp2
        refine region_flow [(false, [(0, 1), (1, 0), (2, 0), (3, 0), (4, 1), (5, 4), (6, 0)])] (by kernel_rfl) ?_
        refine norm_K fun K hK => ?_
        change wpList _ _ _ [_, _, _, _, _, _, _] _ _
        go_wp2_with fail
        refine (selem_c (gx.below (by repeat (first | exact .refl _ _ | apply bwD | apply bwA | (refine bwS ?_ (by first | omega | simp <;> omega) _) | refine bwC ?_ (by assumption)))) (hs.below (by repeat (first | exact .refl _ _ | apply bwD | apply bwA | (refine bwS ?_ (by first | omega | simp <;> omega) _) | refine bwC ?_ (by assumption)))) hl4 hmx (by omega) (by omega)).mono ?_; rintro e w2 ⟨rfl, hb2⟩; simp only [hv]
        go_wp2_with fail
        first | (refine hK _ _ ⟨rfl, ?_⟩; clear hK K) | refine ⟨rfl, ?_⟩
        go_wp2_with fail
        go_ret
        exact ⟨by rw [chkE_ran h1 (H.out.2 hv)]; rfl, bwC hbw.drew hb2⟩
      · go_wp2
        refine region_flow [(false, [(0, 1), (1, 0), (2, 0), (3, 0), (4, 1), (5, 4), (6, 0)])] (by kernel_rfl) ?_
        refine norm_K fun K hK => ?_
        change wpList _ _ _ [_, _, _, _, _, _, _] _ _
        go_wp2_with fail
        refine (selem_c (gx.below (by repeat (first | exact .refl _ _ | apply bwD | apply bwA | (refine bwS ?_ (by first | omega | simp <;> omega) _) | refine bwC ?_ (by assumption)))) (hs.below (by repeat (first | exact .refl _ _ | apply bwD | apply bwA | (refine bwS ?_ (by first | omega | simp <;> omega) _) | refine bwC ?_ (by assumption)))) hl4 hmx (by omega) (by omega)).mono ?_; rintro e w2 ⟨rfl, hb2⟩; simp only [hv]
        go_wp2_with fail
        first | (refine hK _ _ ⟨rfl, ?_⟩; clear hK K) | refine ⟨rfl, ?_⟩
        go_wp2_with fail
        go_roundw
        case rel => exact ⟨k + 1, by omega, by go_num, by rw [H.out.1, hv], bwC hb.drew hb2⟩
        case measure => simp [intOf]; omega
    · have e : xss.take k = xss := take_all (by omega)
      rw [e] at hr
      have H := Lib.hid hr; clear hr e
      go_wp2
      go_ret
      exact ⟨by rw [chkE_ok h1 H.out]; rfl, bwC hwb hb⟩
theorem sl14_c {p : Int} {x : Value} {st : List Int} {w : World} (hx : El w x st) (hm : st.length ≤ 1048576) :
    Calls Try.prog 97 #[.agg #[.int .i64 p, x]] w fun e w' => e = .returned (.int .i64 (chk3 p st [])) ∧ Below w.heap.size w w' := by
  obtain ⟨a, c, rfl, _⟩ := id hx.op
  have hx1 := hx.below (w' := w.alloc (.cells #[.int .i64 p, .slice a st.length c] 26)) (by repeat (first | exact .refl _ _ | apply bwD | apply bwA | (refine bwS ?_ (by first | omega | simp <;> omega) _) | refine bwC ?_ (by assumption)))
  cases h1 : isD p st
  · rw [chk3_no h1]
    go_enter Try.func97, Try.ntmps97
    go_wp2_with (go_at_call 129; refine (sisd_c hx1.sl hm).mono ?_; rintro e w1 ⟨rfl, hb1⟩; simp only [h1])
    go_ret
    exact ⟨rfl, (by repeat (first | exact .refl _ _ | apply bwD | apply bwA | (refine bwS ?_ (by first | omega | simp <;> omega) _) | refine bwC ?_ (by assumption)))⟩
  by_cases h2 : 3 < st.length
  · rw [chk3_lim h1 h2]
    go_enter Try.func97, Try.ntmps97
    go_wp2_with (go_at_call 129; refine (sisd_c hx1.sl hm).mono ?_; rintro e w1 ⟨rfl, hb1⟩; simp only [h1]; obtain ⟨d0, d1⟩ := boxed hb1)
    go_ret
    exact ⟨rfl, (by repeat (first | exact .refl _ _ | apply bwD | apply bwA | (refine bwS ?_ (by first | omega | simp <;> omega) _) | refine bwC ?_ (by assumption)))⟩
  · rw [chk3_ok h1 h2 rfl]
    go_enter Try.func97, Try.ntmps97
    go_wp2_with (go_at_call 129; refine (sisd_c hx1.sl hm).mono ?_; rintro e w1 ⟨rfl, hb1⟩; simp only [h1]; obtain ⟨d0, d1⟩ := boxed hb1)
    go_ret
    exact ⟨rfl, (by repeat (first | exact .refl _ _ | apply bwD | apply bwA | (refine bwS ?_ (by first | omega | simp <;> omega) _) | refine bwC ?_ (by assumption)))⟩
theorem chk3_E {p : Int} {st : List Int} {xss : List (List Int)} (h : chk3 p st [] = 0) : chk3 p st xss = chkE p st xss := by
  unfold chk3 at h ⊢
  unfold chkE
  split at h
  · rename_i h1
    split at h
    · cases h
    · rename_i h2
      rw [if_pos h1, if_neg h2, if_pos h1]
  · cases h
theorem chk3_non {p : Int} {st : List Int} {xss : List (List Int)} (h : chk3 p st [] ≠ 0) : chk3 p st xss = chk3 p st [] := by
  cases h1 : isD p st
  · rw [chk3_no h1, chk3_no h1]
  · by_cases h2 : 3 < st.length
    · rw [chk3_lim h1 h2, chk3_lim h1 h2]
    · exact absurd (chk3_ok h1 h2 rfl) h
theorem sl14e_c {p : Int} {x l : Value} {st : List Int} {xss : List (List Int)} {w : World} (hx : El w x st) (hl : Re w l xss) (hm : st.length ≤ 1048576) (hm1 : xss.length ≤ 1048576) (hm2 : ∀ xs ∈ xss, xs.length ≤ 1048576) :
    Calls Try.prog 44 #[.agg #[.int .i64 p, x], l] w fun e w' => e = .returned (.int .i64 (chk3 p st xss)) ∧ Below w.heap.size w w' := by
  obtain ⟨a, c, rfl, _⟩ := id hx.op
  obtain ⟨a2, c2, rfl, _⟩ := id hl
  have hx1 := hx.below (w' := w.alloc (.cells #[.int .i64 p, .slice a st.length c] 26)) (by repeat (first | exact .refl _ _ | apply bwD | apply bwA | (refine bwS ?_ (by first | omega | simp <;> omega) _) | refine bwC ?_ (by assumption)))
  have hl1 := hl.below (w' := w.alloc (.cells #[.int .i64 p, .slice a st.length c] 26)) (by repeat (first | exact .refl _ _ | apply bwD | apply bwA | (refine bwS ?_ (by first | omega | simp <;> omega) _) | refine bwC ?_ (by assumption)))
  have hcon := fun W hx => sl14_c (w := W) (p := p) (x := .slice a st.length c) hx hm
  obtain ⟨k, hk⟩ : ∃ k, k = chk3 p st [] := ⟨_, rfl⟩
  by_cases h0 : chk3 p st [] = 0
  · rw [chk3_E h0]
    rw [h0] at hk
    subst hk
    simp only [h0] at hcon
    go_enter Try.func44, Try.ntmps44
    go_wp2_with fail
    refine (hcon _ hx1).mono ?_; rintro e w1 ⟨rfl, hb1⟩
    obtain ⟨d0, d1⟩ := boxed hb1
    go_wp2_with fail
    refine (sl11_c (hx1.below hb1) (hl1.below hb1) hm hm1 hm2).mono ?_; rintro e w2 ⟨rfl, hb2⟩
    go_wp2_with fail
    go_ret
    exact ⟨rfl, (by repeat (first | exact .refl _ _ | apply bwD | apply bwA | (refine bwS ?_ (by first | omega | simp <;> omega) _) | refine bwC ?_ (by assumption)))⟩
  · rw [chk3_non h0]
    simp only [← hk] at hcon h0 ⊢
    clear hk
    have hne : (k == 0) = false := by simpa using h0
    go_enter Try.func44, Try.ntmps44
    go_wp2_with fail
    refine (hcon _ hx1).mono ?_; rintro e w1 ⟨rfl, hb1⟩
    go_wp2_with fail
    go_ret
    exact ⟨rfl, (by repeat (first | exact .refl _ _ | apply bwD | apply bwA | (refine bwS ?_ (by first | omega | simp <;> omega) _) | refine bwC ?_ (by assumption)))⟩
end Go.Proofs.Ytgkceadllcjeoaa
