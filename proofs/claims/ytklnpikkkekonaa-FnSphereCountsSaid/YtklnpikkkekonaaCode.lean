/-
  The codes that the conformal functions return for their arguments.
-/
import Derived.Test.YtklnpikkkekonaaExt
namespace Go.Proofs.Ytklnpikkkekonaa
open Go.RowKit

theorem sis_c {p : Int} {x : Value} {xs : List Int} {w : World} (hx : Sl w x xs) (hm : xs.length ≤ 1048576) :
    Calls Try.prog 52 #[.agg #[.int .i64 p, x]] w fun e w' => e = .returned (.bool (isSp p xs)) ∧ Below w.heap.size w w' := by
  obtain ⟨s, hs⟩ : ∃ s, s = isSp p xs := ⟨_, rfl⟩
  rw [← hs]
  unfold isSp at hs
  have hw : Sl (w.alloc (.cells #[.int .i64 p, x] 26)) x xs := hx.below (by repeat (first | exact Below.refl _ _ | apply blw_drew | apply blw_alloc | (refine blw_set ?_ (by first | omega | (simp; done) | (simp; omega)) _) | refine below_chain ?_ (by assumption)))
  have H := Lib.hid hs; clear hs
  obtain ⟨a, c, rfl, _⟩ := hx
  cases h1 : prB p
  · obtain rfl : s = false := by rw [H.out, h1]; rfl
    go_enter Try.func52, Try.ntmps52
    go_wp2_with (go_at_call 66; refine sprime_c.mono ?_; rintro e w1 ⟨rfl, rfl⟩; simp only [h1])
    go_ret
    exact ⟨rfl, (by repeat (first | exact Below.refl _ _ | apply blw_drew | apply blw_alloc | (refine blw_set ?_ (by first | omega | (simp; done) | (simp; omega)) _) | refine below_chain ?_ (by assumption)))⟩
  have hp := prB_iff.1 h1
  have hp1 := hp.lo
  have hp2 := hp.hi
  cases h2 : inR xs.length 1 6
  · obtain rfl : s = false := by rw [H.out, h1, h2]; rfl
    go_enter Try.func52, Try.ntmps52
    go_wp2_with (first
      | (go_at_call 66; refine sprime_c.mono ?_; rintro e w1 ⟨rfl, rfl⟩; simp only [h1])
      | (go_at_call 67; refine sin_c.mono ?_; rintro e w1 ⟨rfl, rfl⟩; simp only [h2]))
    go_ret
    exact ⟨rfl, (by repeat (first | exact Below.refl _ _ | apply blw_drew | apply blw_alloc | (refine blw_set ?_ (by first | omega | (simp; done) | (simp; omega)) _) | refine below_chain ?_ (by assumption)))⟩
  · obtain rfl : s = isL p xs := by rw [H.out, h1, h2]; rfl
    go_enter Try.func52, Try.ntmps52
    go_wp2_with (first
      | (go_at_call 66; refine sprime_c.mono ?_; rintro e w1 ⟨rfl, rfl⟩; simp only [h1])
      | (go_at_call 67; refine sin_c.mono ?_; rintro e w1 ⟨rfl, rfl⟩; simp only [h2])
      | (go_at_call 62; refine (snums_c (by omega) (by omega) hw hm).mono ?_; rintro e w1 ⟨rfl, rfl⟩))
    go_ret
    exact ⟨rfl, (by repeat (first | exact Below.refl _ _ | apply blw_drew | apply blw_alloc | (refine blw_set ?_ (by first | omega | (simp; done) | (simp; omega)) _) | refine below_chain ?_ (by assumption)))⟩
theorem svec_c {p : Int} {x y : Value} {sq xs : List Int} {w : World} (hx : Sl w x sq) (hy : Sl w y xs) (hm : xs.length ≤ 1048576) (hp : 0 ≤ p) (hp2 : p ≤ 1000) :
    Calls Try.prog 39 #[.agg #[.int .i64 p, x], y] w fun e w' => e = .returned (.bool (isV p sq xs)) ∧ Below w.heap.size w w' := by
  obtain ⟨a, c, rfl, _⟩ := hx
  obtain ⟨a2, c2, rfl, _⟩ := id hy
  have hy1 := hy.below (w' := w.alloc (.cells #[.int .i64 p, .slice a sq.length c] 26)) (by repeat (first | exact Below.refl _ _ | apply blw_drew | apply blw_alloc | (refine blw_set ?_ (by first | omega | (simp; done) | (simp; omega)) _) | refine below_chain ?_ (by assumption)))
  by_cases hl : xs.length = sq.length
  · have e : isV p sq xs = isL p xs := by simp [isV, hl]
    rw [e, hl]
    rw [hl] at hy1
    have HL := Lib.hid hl; clear hl e
    go_enter Try.func39, Try.ntmps39
    go_wp2_with (go_at_call 62; refine (snums_c hp hp2 hy1 hm).mono ?_; rintro e w3 ⟨rfl, rfl⟩)
    go_ret
    exact ⟨rfl, (by repeat (first | exact Below.refl _ _ | apply blw_drew | apply blw_alloc | (refine blw_set ?_ (by first | omega | (simp; done) | (simp; omega)) _) | refine below_chain ?_ (by assumption)))⟩
  · have e : isV p sq xs = false := by simp [isV, hl]
    rw [e]
    have hne : ((xs.length : Int) == (sq.length : Int)) = false := by rw [beq_eq_false_iff_ne]; omega
    go_enter Try.func39, Try.ntmps39
    go_wp2
    go_ret
    exact ⟨rfl, (by repeat (first | exact Below.refl _ _ | apply blw_drew | apply blw_alloc | (refine blw_set ?_ (by first | omega | (simp; done) | (simp; omega)) _) | refine below_chain ?_ (by assumption)))⟩
theorem chkP_no {p : Int} {sq : List Int} {xss yss : List (List Int)} (h : isSp p sq = false) : chkP p sq xss yss = 1 := by unfold chkP; rw [h]; rfl
theorem chkP_lim {p : Int} {sq : List Int} {xss yss : List (List Int)} (h : isSp p sq = true) (h2 : 4 < sq.length) : chkP p sq xss yss = 3 := by unfold chkP; rw [h, if_pos rfl, if_pos h2]
theorem chkP_ok {p : Int} {sq : List Int} {xss yss : List (List Int)} (h : isSp p sq = true) (h2 : ¬ 4 < sq.length) (h3 : xss.all (isV p sq) = true) (h4 : yss.all (isV p (extL p sq)) = true) : chkP p sq xss yss = 0 := by
  unfold chkP; rw [h, if_pos rfl, if_neg h2, if_pos ⟨h3, h4⟩]
theorem chkP_ran {p : Int} {sq : List Int} {xss yss : List (List Int)} (h : isSp p sq = true) (h2 : ¬ 4 < sq.length) (h3 : xss.all (isV p sq) = false ∨ yss.all (isV p (extL p sq)) = false) : chkP p sq xss yss = 2 := by
  unfold chkP; rw [h, if_pos rfl, if_neg h2, if_neg (by rintro ⟨a, b⟩; rcases h3 with h3 | h3 <;> simp_all)]
theorem extL_sp {p : Int} {sq : List Int} (h : isSp p sq = true) (h2 : ¬ 4 < sq.length) : isSp p (extL p sq) = true := by
  obtain ⟨hp, h3, h4, h5⟩ := isSp_iff.1 h
  have := hp.lo
  refine isSp_iff.2 ⟨hp, by rw [extL_len]; omega, by rw [extL_len]; omega, fun x hx => ?_⟩
  unfold extL at hx
  rcases List.mem_append.1 hx with hx | hx
  · exact h5 x hx
  · simp at hx; omega
theorem scode_c {p : Int} {x l : Value} {sq : List Int} {xss : List (List Int)} {w : World} (hx : Sl w x sq) (hl : Rl w l xss) (hm : sq.length ≤ 1048576) (hm1 : xss.length ≤ 1048576) (hm2 : ∀ xs ∈ xss, xs.length ≤ 1048576) :
    Calls Try.prog 33 #[.agg #[.int .i64 p, x], l] w fun e w' => e = .returned (.int .i64 (chkP p sq xss [])) ∧ Below w.heap.size w w' := by
  obtain ⟨a, c, rfl, _⟩ := id hx
  obtain ⟨a2, c2, rfl, hl2⟩ := id hl
  have hx1 := hx.below (w' := w.alloc (.cells #[.int .i64 p, .slice a sq.length c] 26)) (by repeat (first | exact Below.refl _ _ | apply blw_drew | apply blw_alloc | (refine blw_set ?_ (by first | omega | (simp; done) | (simp; omega)) _) | refine below_chain ?_ (by assumption)))
  have hl1 := hl.below (w' := w.alloc (.cells #[.int .i64 p, .slice a sq.length c] 26)) (by repeat (first | exact Below.refl _ _ | apply blw_drew | apply blw_alloc | (refine blw_set ?_ (by first | omega | (simp; done) | (simp; omega)) _) | refine below_chain ?_ (by assumption)))
  cases h1 : isSp p sq
  · rw [chkP_no h1]
    go_enter Try.func33, Try.ntmps33
    go_wp2_with (go_at_call 52; refine (sis_c hx1 hm).mono ?_; rintro e w1 ⟨rfl, hb1⟩; simp only [h1])
    go_ret
    exact ⟨rfl, (by repeat (first | exact Below.refl _ _ | apply blw_drew | apply blw_alloc | (refine blw_set ?_ (by first | omega | (simp; done) | (simp; omega)) _) | refine below_chain ?_ (by assumption)))⟩
  have hp := (isSp_iff.1 h1).1
  have hp1 := hp.lo
  have hp2 := hp.hi
  by_cases h2 : 4 < sq.length
  · rw [chkP_lim h1 h2]
    go_enter Try.func33, Try.ntmps33
    go_wp2_with (go_at_call 52; refine (sis_c hx1 hm).mono ?_; rintro e w1 ⟨rfl, hb1⟩; simp only [h1]; obtain ⟨d0, d1⟩ := boxed hb1)
    go_ret
    exact ⟨rfl, (by repeat (first | exact Below.refl _ _ | apply blw_drew | apply blw_alloc | (refine blw_set ?_ (by first | omega | (simp; done) | (simp; omega)) _) | refine below_chain ?_ (by assumption)))⟩
  rcases hl2 with rfl | ⟨b, off, rfl, hl2⟩
  · rw [chkP_ok h1 h2 rfl rfl]
    go_enter Try.func33, Try.ntmps33
    go_wp2_with (go_at_call 52; refine (sis_c hx1 hm).mono ?_; rintro e w1 ⟨rfl, hb1⟩; simp only [h1]; obtain ⟨d0, d1⟩ := boxed hb1)
    refine wp_loop_rounds 1 ?_; rw [rounds_succ]
    go_wp2_with fail
    go_ret
    exact ⟨rfl, (by repeat (first | exact Below.refl _ _ | apply blw_drew | apply blw_alloc | (refine blw_set ?_ (by first | omega | (simp; done) | (simp; omega)) _) | refine below_chain ?_ (by assumption)))⟩
  go_enter Try.func33, Try.ntmps33
  go_wp2_with (go_at_call 52; refine (sis_c hx1 hm).mono ?_; rintro e w1 ⟨rfl, hb1⟩; simp only [h1]; obtain ⟨d0, d1⟩ := boxed hb1)
  have hx2 := hx1.below hb1
  have hwb : Below w.heap.size w w1 := (by repeat (first | exact Below.refl _ _ | apply blw_drew | apply blw_alloc | (refine blw_set ?_ (by first | omega | (simp; done) | (simp; omega)) _) | refine below_chain ?_ (by assumption)))
  go_loopw [5] (fun i wr => ∃ k : Nat, k ≤ xss.length ∧ i = .int .i64 k ∧ (xss.take k).all (isV p sq) = true ∧ Below w1.heap.size w1 wr) (fun i _ => xss.length - (intOf i).toNat)
  case atStart => exact ⟨0, Nat.zero_le _, rfl, rfl, Below.refl _ _⟩
  case round =>
    obtain ⟨k, hk, rfl, hr, hb⟩ := hrel
    by_cases hlt : k < xss.length
    · obtain ⟨a1, c1, xs, hxs, hc0, hs0, ht⟩ := Rl.get hl2 hlt
      have hbw := below_chain hwb hb
      have hc := kept hbw hc0
      have hs := hs0.below hbw
      have g0 := kept hb d0
      have g1 := kept hb d1
      have gx := hx2.below hb
      have hmx := hm2 xs hxs
      have H := Lib.hid (And.intro (all_snoc hr ht) (@all_no _ (isV p sq) _ _ hxs)); clear hr ht
      cases hv : isV p sq xs
      · go_wp2
        refine region_flow [(false, [(0, 1), (1, 0), (2, 0), (3, 0), (4, 1), (5, 4), (6, 0)])] (by kernel_rfl) ?_
        refine norm_K fun K hK => ?_
        change wpList _ _ _ [_, _, _, _, _, _, _] _ _
        go_wp2_with fail
        refine (svec_c (gx.below (by repeat (first | exact Below.refl _ _ | apply blw_drew | apply blw_alloc | (refine blw_set ?_ (by first | omega | (simp; done) | (simp; omega)) _) | refine below_chain ?_ (by assumption)))) (hs.below (by repeat (first | exact Below.refl _ _ | apply blw_drew | apply blw_alloc | (refine blw_set ?_ (by first | omega | (simp; done) | (simp; omega)) _) | refine below_chain ?_ (by assumption)))) hmx (by omega) (by omega)).mono ?_; rintro e w2 ⟨rfl, hb2⟩; simp only [hv]
        go_wp2_with fail
        first | (refine hK _ _ ⟨rfl, ?_⟩; clear hK K) | refine ⟨rfl, ?_⟩
        go_wp2_with fail
        go_ret
        exact ⟨by rw [chkP_ran h1 h2 (.inl (H.out.2 hv))]; rfl, below_chain hbw.drew hb2⟩
      · go_wp2
        refine region_flow [(false, [(0, 1), (1, 0), (2, 0), (3, 0), (4, 1), (5, 4), (6, 0)])] (by kernel_rfl) ?_
        refine norm_K fun K hK => ?_
        change wpList _ _ _ [_, _, _, _, _, _, _] _ _
        go_wp2_with fail
        refine (svec_c (gx.below (by repeat (first | exact Below.refl _ _ | apply blw_drew | apply blw_alloc | (refine blw_set ?_ (by first | omega | (simp; done) | (simp; omega)) _) | refine below_chain ?_ (by assumption)))) (hs.below (by repeat (first | exact Below.refl _ _ | apply blw_drew | apply blw_alloc | (refine blw_set ?_ (by first | omega | (simp; done) | (simp; omega)) _) | refine below_chain ?_ (by assumption)))) hmx (by omega) (by omega)).mono ?_; rintro e w2 ⟨rfl, hb2⟩; simp only [hv]
        go_wp2_with fail
        first | (refine hK _ _ ⟨rfl, ?_⟩; clear hK K) | refine ⟨rfl, ?_⟩
        go_wp2_with fail
        go_roundw
        case rel => exact ⟨k + 1, by omega, by go_num, by rw [H.out.1, hv], below_chain hb.drew hb2⟩
        case measure => simp [intOf]; omega
    · have e : xss.take k = xss := take_all (by omega)
      rw [e] at hr
      have H := Lib.hid hr; clear hr e
      go_wp2
      go_ret
      exact ⟨by rw [chkP_ok h1 h2 H.out rfl]; rfl, below_chain hwb hb⟩
theorem chkpl_c {p : Int} {x l m : Value} {sq : List Int} {xss yss : List (List Int)} {w : World} (hx : Sl w x sq) (hl : Rl w l xss) (hy : Rl w m yss) (hm : sq.length ≤ 1048576)
    (hm1 : xss.length ≤ 1048576) (hm2 : ∀ xs ∈ xss, xs.length ≤ 1048576) (hn1 : yss.length ≤ 1048576) (hn2 : ∀ xs ∈ yss, xs.length ≤ 1048576) :
    Calls Try.prog 16 #[.agg #[.int .i64 p, x], l, m] w fun e w' => e = .returned (.int .i64 (chkP p sq xss yss)) ∧ Below w.heap.size w w' := by
  obtain ⟨a, c, rfl, _⟩ := id hx
  obtain ⟨a2, c2, rfl, _⟩ := id hl
  obtain ⟨a3, c3, rfl, _⟩ := id hy
  have hx1 := hx.below (w' := w.alloc (.cells #[.int .i64 p, .slice a sq.length c] 26)) (by repeat (first | exact Below.refl _ _ | apply blw_drew | apply blw_alloc | (refine blw_set ?_ (by first | omega | (simp; done) | (simp; omega)) _) | refine below_chain ?_ (by assumption)))
  have hl1 := hl.below (w' := w.alloc (.cells #[.int .i64 p, .slice a sq.length c] 26)) (by repeat (first | exact Below.refl _ _ | apply blw_drew | apply blw_alloc | (refine blw_set ?_ (by first | omega | (simp; done) | (simp; omega)) _) | refine below_chain ?_ (by assumption)))
  have hy1 := hy.below (w' := w.alloc (.cells #[.int .i64 p, .slice a sq.length c] 26)) (by repeat (first | exact Below.refl _ _ | apply blw_drew | apply blw_alloc | (refine blw_set ?_ (by first | omega | (simp; done) | (simp; omega)) _) | refine below_chain ?_ (by assumption)))
  cases h1 : isSp p sq
  · rw [chkP_no h1]
    go_enter Try.func16, Try.ntmps16
    go_wp2_with (go_at_call 28; refine (isspace_c hx1 hm).mono ?_; rintro e w1 ⟨rfl, hb1⟩; simp only [h1])
    go_ret
    exact ⟨rfl, (by repeat (first | exact Below.refl _ _ | apply blw_drew | apply blw_alloc | (refine blw_set ?_ (by first | omega | (simp; done) | (simp; omega)) _) | refine below_chain ?_ (by assumption)))⟩
  by_cases h2 : 4 < sq.length
  · rw [chkP_lim h1 h2]
    go_enter Try.func16, Try.ntmps16
    go_wp2_with (first
      | (go_at_call 28; refine (isspace_c hx1 hm).mono ?_; rintro e w1 ⟨rfl, hb1⟩; simp only [h1]; obtain ⟨d0, d1⟩ := boxed hb1)
      | (go_at_call 23; refine dim_c.mono ?_; rintro e w2 ⟨rfl, hb2⟩))
    go_ret
    exact ⟨rfl, (by repeat (first | exact Below.refl _ _ | apply blw_drew | apply blw_alloc | (refine blw_set ?_ (by first | omega | (simp; done) | (simp; omega)) _) | refine below_chain ?_ (by assumption)))⟩
  cases h3 : xss.all (isV p sq)
  · have hv : chkV p sq xss = 2 := by unfold chkV; rw [h1, h3]; rfl
    rw [chkP_ran h1 h2 (.inl h3)]
    go_enter Try.func16, Try.ntmps16
    go_wp2_with (first
      | (go_at_call 28; refine (isspace_c hx1 hm).mono ?_; rintro e w1 ⟨rfl, hb1⟩; simp only [h1]; obtain ⟨d0, d1⟩ := boxed hb1)
      | (go_at_call 23; refine dim_c.mono ?_; rintro e w2 ⟨rfl, hb2⟩; have g0 := kept hb2 d0; have g1 := kept hb2 d1)
      | (go_at_call 36; refine (chkvec_c ((hx1.below hb1).below hb2) ((hl1.below hb1).below hb2) hm hm1 hm2).mono ?_; rintro e w3 ⟨rfl, hb3⟩; simp only [hv]))
    go_ret
    exact ⟨rfl, (by repeat (first | exact Below.refl _ _ | apply blw_drew | apply blw_alloc | (refine blw_set ?_ (by first | omega | (simp; done) | (simp; omega)) _) | refine below_chain ?_ (by assumption)))⟩
  have hv : chkV p sq xss = 0 := by unfold chkV; rw [h1, h3]; rfl
  have he := extL_sp h1 h2
  cases h4 : yss.all (isV p (extL p sq))
  · have hv2 : chkV p (extL p sq) yss = 2 := by unfold chkV; rw [he, h4]; rfl
    rw [chkP_ran h1 h2 (.inr h4)]
    go_enter Try.func16, Try.ntmps16
    go_wp2_with (first
      | (go_at_call 28; refine (isspace_c hx1 hm).mono ?_; rintro e w1 ⟨rfl, hb1⟩; simp only [h1]; obtain ⟨d0, d1⟩ := boxed hb1)
      | (go_at_call 23; refine dim_c.mono ?_; rintro e w2 ⟨rfl, hb2⟩; have g0 := kept hb2 d0; have g1 := kept hb2 d1)
      | (go_at_call 36; refine (chkvec_c hv4.sl ((((hy1.below hb1).below hb2).below hb3).below hb4) (by rw [extL_len]; omega) hn1 hn2).mono ?_; rintro e w5 ⟨rfl, hb5⟩; simp only [hv2])
      | (go_at_call 36; refine (chkvec_c ((hx1.below hb1).below hb2) ((hl1.below hb1).below hb2) hm hm1 hm2).mono ?_; rintro e w3 ⟨rfl, hb3⟩; simp only [hv]; have k0 := kept hb3 g0; have k1 := kept hb3 g1)
      | (go_at_call 37; refine (ext_c (((hx1.below hb1).below hb2).below hb3) h1).mono ?_; rintro e w4 ⟨v, rfl, hv4, hb4⟩))
    go_ret
    exact ⟨rfl, (by repeat (first | exact Below.refl _ _ | apply blw_drew | apply blw_alloc | (refine blw_set ?_ (by first | omega | (simp; done) | (simp; omega)) _) | refine below_chain ?_ (by assumption)))⟩
  · have hv2 : chkV p (extL p sq) yss = 0 := by unfold chkV; rw [he, h4]; rfl
    rw [chkP_ok h1 h2 h3 h4]
    go_enter Try.func16, Try.ntmps16
    go_wp2_with (first
      | (go_at_call 28; refine (isspace_c hx1 hm).mono ?_; rintro e w1 ⟨rfl, hb1⟩; simp only [h1]; obtain ⟨d0, d1⟩ := boxed hb1)
      | (go_at_call 23; refine dim_c.mono ?_; rintro e w2 ⟨rfl, hb2⟩; have g0 := kept hb2 d0; have g1 := kept hb2 d1)
      | (go_at_call 36; refine (chkvec_c hv4.sl ((((hy1.below hb1).below hb2).below hb3).below hb4) (by rw [extL_len]; omega) hn1 hn2).mono ?_; rintro e w5 ⟨rfl, hb5⟩; simp only [hv2])
      | (go_at_call 36; refine (chkvec_c ((hx1.below hb1).below hb2) ((hl1.below hb1).below hb2) hm hm1 hm2).mono ?_; rintro e w3 ⟨rfl, hb3⟩; simp only [hv]; have k0 := kept hb3 g0; have k1 := kept hb3 g1)
      | (go_at_call 37; refine (ext_c (((hx1.below hb1).below hb2).below hb3) h1).mono ?_; rintro e w4 ⟨v, rfl, hv4, hb4⟩))
    go_ret
    exact ⟨rfl, (by repeat (first | exact Below.refl _ _ | apply blw_drew | apply blw_alloc | (refine blw_set ?_ (by first | omega | (simp; done) | (simp; omega)) _) | refine below_chain ?_ (by assumption)))⟩
theorem below_le {a b : World} (h : Below a.heap.size a b) : a.heap.size ≤ b.heap.size := h.size
theorem chkP_pos {p : Int} {sq : List Int} {xss yss : List (List Int)} (h : chkP p sq xss yss = 0) : isSp p sq = true ∧ sq.length ≤ 4 ∧ (∀ xs ∈ xss, isV p sq xs = true) ∧ ∀ xs ∈ yss, isV p (extL p sq) xs = true := by
  unfold chkP at h
  split at h
  · split at h
    · cases h
    · split at h
      · rename_i h1 h2 h3
        exact ⟨h1, by omega, fun xs hx => List.all_eq_true.1 h3.1 xs hx, fun xs hx => List.all_eq_true.1 h3.2 xs hx⟩
      · cases h
  · cases h
theorem chkP_bd {p : Int} {sq : List Int} {xss yss : List (List Int)} : 0 ≤ chkP p sq xss yss ∧ chkP p sq xss yss ≤ 3 := by
  unfold chkP
  split <;> (try split) <;> (try split) <;> omega
end Go.Proofs.Ytklnpikkkekonaa
