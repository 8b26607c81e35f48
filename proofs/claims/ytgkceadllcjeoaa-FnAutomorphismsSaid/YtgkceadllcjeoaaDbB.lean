/-
  The checks of lists of elements, the program's and the reference's.
-/
import Derived.Test.YtgkceadllcjeoaaJag
namespace Go.Proofs.Ytgkceadllcjeoaa
open Go.RowKit

theorem chkel1_c {p : Int} {x y : Value} {q : Nat} {st xs : List Int} {w : World} (h0 : w.cell? ⟨q, 0, none⟩ = some (.int .i64 p)) (h1 : w.cell? ⟨q, 1, none⟩ = some x) (hx : El w x st) (hy : El w y xs) (hl : st.length ≤ 4) (hm : xs.length ≤ 1048576) (hp : 0 ≤ p) (hp2 : p ≤ 1000) :
    Calls Try.prog 105 #[y, .pointer (some ⟨q, 0, none⟩)] w fun e w' => e = .returned (.bool (!isE p (sz st.length) xs)) ∧ Below w.heap.size w w' := by
  obtain ⟨a, c, rfl, _⟩ := id hx.op
  obtain ⟨a2, c2, rfl, _⟩ := id hy.op
  have hpw := pow_le hl
  by_cases hln : xs.length = sz st.length
  · have e : isE p (sz st.length) xs = isL p xs := by simp [isE, hln]
    have E := Lib.hid e; clear e
    have hne : ((xs.length : Int) != ((sz st.length : Nat) : Int)) = false := by rw [hln]; simp
    have HN := Lib.hid hln; clear hln
    cases hv : isL p xs
    all_goals
      go_enter Try.func105, Try.ntmps105
      go_wp2_with fail
      refine (size_c hl).mono ?_; rintro e w1 ⟨rfl, hb1⟩
      have h0 := kept hb1 h0; have h1 := kept hb1 h1; have hy := hy.below hb1
      go_wp2_with fail
      refine dfield_c.mono ?_; rintro e w2 ⟨rfl, hb2⟩
      have h0 := kept hb2 h0; have h1 := kept hb2 h1; have hy := hy.below hb2
      go_wp2_with fail
      refine (is_c hp hp2 hy.sl hm).mono ?_; rintro e w3 ⟨rfl, rfl⟩
      simp only [hv]
      go_wp2_with fail
      go_ret
      exact ⟨by rw [E.out, hv]; rfl, (by repeat (first | exact .refl _ _ | apply bwD | apply bwA | (refine bwS ?_ (by first | omega | simp <;> omega) _) | refine bwC ?_ (by assumption)))⟩
  · have e : isE p (sz st.length) xs = false := by simp [isE, hln]
    have E := Lib.hid e; clear e
    have hne : ((xs.length : Int) != ((sz st.length : Nat) : Int)) = true := by rw [bne_iff_ne]; omega
    go_enter Try.func105, Try.ntmps105
    go_wp2_with fail
    refine (size_c hl).mono ?_; rintro e w1 ⟨rfl, hb1⟩
    go_wp2_with fail
    go_ret
    exact ⟨by rw [E.out]; rfl, (by repeat (first | exact .refl _ _ | apply bwD | apply bwA | (refine bwS ?_ (by first | omega | simp <;> omega) _) | refine bwC ?_ (by assumption)))⟩
theorem idxel_c {p : Int} {x l : Value} {q : Nat} {st : List Int} {xss : List (List Int)} {w : World} (h0 : w.cell? ⟨q, 0, none⟩ = some (.int .i64 p)) (h1 : w.cell? ⟨q, 1, none⟩ = some x) (hx : El w x st) (hlen : st.length ≤ 4) (hl : Re w l xss)
    (hm1 : xss.length ≤ 1048576) (hm : ∀ xs ∈ xss, xs.length ≤ 1048576) (hp : 0 ≤ p) (hp2 : p ≤ 1000) :
    Calls Try.prog 132 #[l, .func (Fn.func 105) #[] #[.pointer (some ⟨q, 0, none⟩)]] w fun e w' =>
      ∃ k : Int, e = .returned (.int .i64 k) ∧ Found k (!xss.all (isE p (sz st.length))) ∧ -1 ≤ k ∧ k ≤ 1048576 ∧ Below w.heap.size w w' := by
  obtain ⟨a, c, rfl, _, _, rfl | ⟨b, off, rfl, hl⟩⟩ := hl
  · go_enter Try.func132, Try.ntmps132
    go_wp2
    refine wp_loop_rounds 1 ?_; rw [rounds_succ]
    go_wp2; go_ret; exact ⟨_, rfl, (rfl : decide _ = _), by decide, by decide, Below.refl _ _⟩
  go_enter Try.func132, Try.ntmps132
  go_wp2
  go_loopw [8] (fun i wr => ∃ k : Nat, k ≤ xss.length ∧ i = .int .i64 k ∧ (xss.take k).all (isE p (sz st.length)) = true ∧ Below w.heap.size w wr) (fun i _ => xss.length - (intOf i).toNat)
  case atStart => exact ⟨0, Nat.zero_le _, rfl, rfl, Below.refl _ _⟩
  case round =>
    obtain ⟨k, hk, rfl, hr, hb⟩ := hrel
    by_cases hlt : k < xss.length
    · obtain ⟨a1, c1, xs, hxs, hc0, hs0, ht⟩ := Re.get hl hlt
      have hc := kept hb hc0
      have hs := hs0.below hb
      have g0 := kept hb h0
      have g1 := kept hb h1
      have gx := hx.below hb
      have hmx := hm xs hxs
      have H := Lib.hid (And.intro (all_snoc hr ht) (@all_no _ (isE p (sz st.length)) _ _ hxs)); clear hr ht
      cases hv : isE p (sz st.length) xs
      · go_wp2_with (go_at_call 105; refine (chkel1_c g0 g1 gx hs hlen hmx hp hp2).mono ?_; rintro e w1 ⟨rfl, hb1⟩; simp only [hv])
        go_ret
        exact ⟨_, rfl, by rw [H.out.2 hv]; unfold Found; simp, by omega, by omega, bwC hb hb1⟩
      · go_wp2_with (go_at_call 105; refine (chkel1_c g0 g1 gx hs hlen hmx hp hp2).mono ?_; rintro e w1 ⟨rfl, hb1⟩; simp only [hv])
        go_roundw
        case rel => exact ⟨k + 1, by omega, by go_num, by rw [H.out.1, hv], bwC hb hb1⟩
        case measure => simp [intOf]; omega
    · have e : xss.take k = xss := take_all (by omega)
      rw [e] at hr
      have H := Lib.hid hr; clear hr e
      go_wp2
      go_ret
      exact ⟨_, rfl, by rw [H.out]; unfold Found; rfl, by decide, by decide, hb⟩
theorem conel_c {p : Int} {x l : Value} {q : Nat} {st : List Int} {xss : List (List Int)} {w : World} (h0 : w.cell? ⟨q, 0, none⟩ = some (.int .i64 p)) (h1 : w.cell? ⟨q, 1, none⟩ = some x) (hx : El w x st) (hlen : st.length ≤ 4) (hl : Re w l xss)
    (hm1 : xss.length ≤ 1048576) (hm : ∀ xs ∈ xss, xs.length ≤ 1048576) (hp : 0 ≤ p) (hp2 : p ≤ 1000) :
    Calls Try.prog 104 #[l, .func (Fn.func 105) #[] #[.pointer (some ⟨q, 0, none⟩)]] w fun e w' =>
      e = .returned (.bool (!xss.all (isE p (sz st.length)))) ∧ Below w.heap.size w w' := by
  obtain ⟨a2, c2, rfl, _⟩ := id hl
  go_enter Try.func104, Try.ntmps104
  go_wp2_with (go_at_call 132; refine (idxel_c h0 h1 hx hlen hl hm1 hm hp hp2).mono ?_; rintro e w1 ⟨k, rfl, hk, hk1, hk2, hb1⟩; unfold Found at hk; have H := Lib.hid hk; clear hk)
  go_ret
  exact ⟨by rw [← H.out]; rfl, hb1⟩
theorem chkel_c {p : Int} {x l : Value} {st : List Int} {xss : List (List Int)} {w : World} (hx : El w x st) (hl : Re w l xss) (hm : st.length ≤ 1048576) (hm1 : xss.length ≤ 1048576) (hm2 : ∀ xs ∈ xss, xs.length ≤ 1048576) :
    Calls Try.prog 57 #[.agg #[.int .i64 p, x], l] w fun e w' => e = .returned (.int .i64 (chkE p st xss)) ∧ Below w.heap.size w w' := by
  obtain ⟨a, c, rfl, _⟩ := id hx.op
  obtain ⟨a2, c2, rfl, _⟩ := id hl
  have hx1 := hx.below (w' := w.alloc (.cells #[.int .i64 p, .slice a st.length c] 26)) (by repeat (first | exact .refl _ _ | apply bwD | apply bwA | (refine bwS ?_ (by first | omega | simp <;> omega) _) | refine bwC ?_ (by assumption)))
  have hl1 := hl.below (w' := w.alloc (.cells #[.int .i64 p, .slice a st.length c] 26)) (by repeat (first | exact .refl _ _ | apply bwD | apply bwA | (refine bwS ?_ (by first | omega | simp <;> omega) _) | refine bwC ?_ (by assumption)))
  obtain ⟨r, hr⟩ : ∃ r, r = chkE p st xss := ⟨_, rfl⟩
  rw [← hr]
  unfold chkE at hr
  have H := Lib.hid hr; clear hr
  cases h1 : isD p st
  · obtain rfl : r = 1 := by rw [H.out, h1]; rfl
    go_enter Try.func57, Try.ntmps57
    go_wp2_with (go_at_call 88; refine (isdbl_c hx1.sl hm).mono ?_; rintro e w1 ⟨rfl, hb1⟩; simp only [h1])
    go_ret
    exact ⟨rfl, (by repeat (first | exact .refl _ _ | apply bwD | apply bwA | (refine bwS ?_ (by first | omega | simp <;> omega) _) | refine bwC ?_ (by assumption)))⟩
  · obtain ⟨hp, hl4, _⟩ := isD_iff.1 h1
    have hp1 := hp.lo
    have hp2 := hp.hi
    cases h2 : xss.all (isE p (sz st.length))
    · obtain rfl : r = 2 := by rw [H.out, h1, h2]; rfl
      go_enter Try.func57, Try.ntmps57
      go_wp2_with (first
        | (go_at_call 88; refine (isdbl_c hx1.sl hm).mono ?_; rintro e w1 ⟨rfl, hb1⟩; simp only [h1]; obtain ⟨d0, d1⟩ := boxed hb1)
        | (go_at_call 104; refine (conel_c d0 d1 (hx1.below hb1) hl4 (hl1.below hb1) hm1 hm2 (by omega) (by omega)).mono ?_; rintro e w2 ⟨rfl, hb2⟩; simp only [h2]))
      go_ret
      exact ⟨rfl, (by repeat (first | exact .refl _ _ | apply bwD | apply bwA | (refine bwS ?_ (by first | omega | simp <;> omega) _) | refine bwC ?_ (by assumption)))⟩
    · obtain rfl : r = 0 := by rw [H.out, h1, h2]; rfl
      go_enter Try.func57, Try.ntmps57
      go_wp2_with (first
        | (go_at_call 88; refine (isdbl_c hx1.sl hm).mono ?_; rintro e w1 ⟨rfl, hb1⟩; simp only [h1]; obtain ⟨d0, d1⟩ := boxed hb1)
        | (go_at_call 104; refine (conel_c d0 d1 (hx1.below hb1) hl4 (hl1.below hb1) hm1 hm2 (by omega) (by omega)).mono ?_; rintro e w2 ⟨rfl, hb2⟩; simp only [h2]))
      go_ret
      exact ⟨rfl, (by repeat (first | exact .refl _ _ | apply bwD | apply bwA | (refine bwS ?_ (by first | omega | simp <;> omega) _) | refine bwC ?_ (by assumption)))⟩
theorem connil_c {f : Value} {w : World} :
    Calls Try.prog 89 #[.slice none 0 0, f] w fun e w' => e = .returned (.bool false) ∧ w = w' := by
  have h : ∀ (w : World), Calls Try.prog 125 #[.slice none 0 0, f] w fun e w' => e = .returned (.int .i64 (-1)) ∧ w = w' := fun w => by
    go_enter Try.func125, Try.ntmps125
    go_wp2
    refine wp_loop_rounds 1 ?_; rw [rounds_succ]
    go_wp2; go_ret; exact ⟨rfl, rfl⟩
  go_enter Try.func89, Try.ntmps89
  go_wp2_with (go_at_call 125; refine (h _).mono ?_; rintro e w1 ⟨rfl, rfl⟩)
  go_ret
  exact ⟨rfl, rfl⟩
theorem chk3_no {p : Int} {st : List Int} {xss : List (List Int)} (h : isD p st = false) : chk3 p st xss = 1 := by unfold chk3; rw [h]; rfl
theorem chk3_lim {p : Int} {st : List Int} {xss : List (List Int)} (h : isD p st = true) (h2 : 3 < st.length) : chk3 p st xss = 3 := by unfold chk3; rw [h, if_pos rfl, if_pos h2]
theorem chk3_ran {p : Int} {st : List Int} {xss : List (List Int)} (h : isD p st = true) (h2 : ¬ 3 < st.length) (h3 : xss.all (isE p (sz st.length)) = false) : chk3 p st xss = 2 := by unfold chk3; rw [h, if_pos rfl, if_neg h2, h3]; rfl
theorem chk3_ok {p : Int} {st : List Int} {xss : List (List Int)} (h : isD p st = true) (h2 : ¬ 3 < st.length) (h3 : xss.all (isE p (sz st.length)) = true) : chk3 p st xss = 0 := by unfold chk3; rw [h, if_pos rfl, if_neg h2, h3]; rfl
theorem chkE_no {p : Int} {st : List Int} {xss : List (List Int)} (h : isD p st = false) : chkE p st xss = 1 := by unfold chkE; rw [h]; rfl
theorem chkE_ran {p : Int} {st : List Int} {xss : List (List Int)} (h : isD p st = true) (h3 : xss.all (isE p (sz st.length)) = false) : chkE p st xss = 2 := by unfold chkE; rw [h, if_pos rfl, h3]; rfl
theorem chkE_ok {p : Int} {st : List Int} {xss : List (List Int)} (h : isD p st = true) (h3 : xss.all (isE p (sz st.length)) = true) : chkE p st xss = 0 := by unfold chkE; rw [h, if_pos rfl, h3]; rfl
theorem chk3_c {p : Int} {x l : Value} {st : List Int} {xss : List (List Int)} {w : World} (hx : El w x st) (hl : Re w l xss) (hm : st.length ≤ 1048576) (hm1 : xss.length ≤ 1048576) (hm2 : ∀ xs ∈ xss, xs.length ≤ 1048576) :
    Calls Try.prog 38 #[.agg #[.int .i64 p, x], l, .slice none 0 0] w fun e w' => e = .returned (.int .i64 (chk3 p st xss)) ∧ Below w.heap.size w w' := by
  obtain ⟨a, c, rfl, _⟩ := id hx.op
  obtain ⟨a2, c2, rfl, _⟩ := id hl
  have hx1 := hx.below (w' := w.alloc (.cells #[.int .i64 p, .slice a st.length c] 26)) (by repeat (first | exact .refl _ _ | apply bwD | apply bwA | (refine bwS ?_ (by first | omega | simp <;> omega) _) | refine bwC ?_ (by assumption)))
  have hl1 := hl.below (w' := w.alloc (.cells #[.int .i64 p, .slice a st.length c] 26)) (by repeat (first | exact .refl _ _ | apply bwD | apply bwA | (refine bwS ?_ (by first | omega | simp <;> omega) _) | refine bwC ?_ (by assumption)))
  cases h1 : isD p st
  · rw [chk3_no h1]
    go_enter Try.func38, Try.ntmps38
    go_wp2_with (go_at_call 88; refine (isdbl_c hx1.sl hm).mono ?_; rintro e w1 ⟨rfl, hb1⟩; simp only [h1])
    go_ret
    exact ⟨rfl, (by repeat (first | exact .refl _ _ | apply bwD | apply bwA | (refine bwS ?_ (by first | omega | simp <;> omega) _) | refine bwC ?_ (by assumption)))⟩
  by_cases h2 : 3 < st.length
  · rw [chk3_lim h1 h2]
    go_enter Try.func38, Try.ntmps38
    go_wp2_with (go_at_call 88; refine (isdbl_c hx1.sl hm).mono ?_; rintro e w1 ⟨rfl, hb1⟩; simp only [h1]; obtain ⟨d0, d1⟩ := boxed hb1)
    go_ret
    exact ⟨rfl, (by repeat (first | exact .refl _ _ | apply bwD | apply bwA | (refine bwS ?_ (by first | omega | simp <;> omega) _) | refine bwC ?_ (by assumption)))⟩
  cases h3 : xss.all (isE p (sz st.length))
  · have hv := chkE_ran h1 h3
    rw [chk3_ran h1 h2 h3]
    go_enter Try.func38, Try.ntmps38
    go_wp2_with (first
      | (go_at_call 88; refine (isdbl_c hx1.sl hm).mono ?_; rintro e w1 ⟨rfl, hb1⟩; simp only [h1]; obtain ⟨d0, d1⟩ := boxed hb1)
      | (go_at_call 57; refine (chkel_c (hx1.below hb1) (hl1.below hb1) hm hm1 hm2).mono ?_; rintro e w3 ⟨rfl, hb3⟩; simp only [hv]))
    go_ret
    exact ⟨rfl, (by repeat (first | exact .refl _ _ | apply bwD | apply bwA | (refine bwS ?_ (by first | omega | simp <;> omega) _) | refine bwC ?_ (by assumption)))⟩
  · have hv := chkE_ok h1 h3
    rw [chk3_ok h1 h2 h3]
    go_enter Try.func38, Try.ntmps38
    go_wp2_with (first
      | (go_at_call 88; refine (isdbl_c hx1.sl hm).mono ?_; rintro e w1 ⟨rfl, hb1⟩; simp only [h1]; obtain ⟨d0, d1⟩ := boxed hb1)
      | (go_at_call 57; refine (chkel_c (hx1.below hb1) (hl1.below hb1) hm hm1 hm2).mono ?_; rintro e w3 ⟨rfl, hb3⟩; simp only [hv])
      | (go_at_call 89; refine connil_c.mono ?_; rintro e w4 ⟨rfl, rfl⟩))
    go_ret
    exact ⟨rfl, (by repeat (first | exact .refl _ _ | apply bwD | apply bwA | (refine bwS ?_ (by first | omega | simp <;> omega) _) | refine bwC ?_ (by assumption)))⟩
end Go.Proofs.Ytgkceadllcjeoaa
