/-
  Draws of spaces and vectors.
-/
import Derived.Test.YtklnpikkkekonaaSpD
import Derived.Test.YtklnpikkkekonaaRest
namespace Go.Proofs.Ytklnpikkkekonaa
open Go.RowKit

theorem OwN.sl {w : World} {B : Nat} {v : Value} {xs : List Int} (h : OwN w B v xs) : Sl w v xs := by
  cases xs with
  | nil =>
    obtain ⟨a, n, c, rfl⟩ := h.form
    have e := h.len
    subst e
    exact ⟨a, c, rfl, .inl rfl⟩
  | cons x r => exact (h.fr (by simp)).sl
theorem OwN.cp {w : World} {B : Nat} {v : Value} {xs : List Int} (h : OwN w B v xs) : Cp v := by
  rcases h.2 with ⟨e, hl⟩ | ⟨g, cap, cur, rfl, _, _, h3, h4, _⟩
  · exact ⟨none, 0, 0, e, Nat.le_refl _, by decide⟩
  · simp only [maxLen] at h4
    exact ⟨_, _, cap, rfl, h3, by omega⟩
section
variable {ops : Array Oper} {rest : List Oper} {o : Oper} {a : Act} {Q : Exit → Act → World → Prop}
/-- append(out, n, m), where out may be nil. -/
theorem appn_two (hgd : o.guard = none) (s x : Operand)
    (ho : o.op = .call { callee := .builtin .append, args := #[s, x], argTypes := #[24, 24] })
    (W : World) (B H : Nat) (hH : W.heap.size = H) (v : Value) (xs : List Int) (hs : a.eval s = v) (z u : Int) (c : Nat) (hx : a.eval x = .slice (some ⟨H, 0, none⟩) 2 c)
    (hown : OwN W B v xs) (hB : B ≤ W.heap.size) (hm : xs.length ≤ 100000000)
    (h : ∀ g' cap' w', OwN w' B (.slice (some ⟨g', 0, none⟩) (xs.length + 2) cap') (xs ++ [z, u]) → Below B W w' → W.grownBy w' v.ownBlock → (v.ownBlock = some g' ∨ g' = H + 1) → wpList Try.prog ops Q rest (a.put o.dst (.slice (some ⟨g', 0, none⟩) (xs.length + 2) cap')) w') :
    wpList Try.prog ops Q (o :: rest) a (W.alloc (.cells #[.int .i64 z, .int .i64 u] 2)) := by
  subst hH
  obtain ⟨i0, hi, hz0, hz1, hz2⟩ := info_parts infoI
  refine wpList_append_lies (W.alloc (.cells #[.int .i64 z, .int .i64 u] 2)) hgd s x 24 ho B 2 i0 (.int .i64 0) 1 8 Try.underlying24 hi hz0 hz1 hz2 rfl (by decide) v xs.length (xs.map (Value.int .i64)) hs (World.ownsRow.alloc hown _) ⟨W.heap.size, 0, none⟩ 2 c [.int .i64 z, .int .i64 u] hx rfl ?_ ?_ (by decide) (by simp only [maxLen]; omega) (by omega) (by simp; omega) _ rfl ?_
  · intro j y hy
    rw [addz]
    rcases j with _ | _ | j
    · simp at hy
      subst hy
      simp [go_sem]
    · simp at hy
      subst hy
      simp [go_sem]
    · simp at hy
  · intro y hy
    simp at hy
    rcases hy with rfl | rfl <;> rfl
  · intro g cap w' h1 h2 h3 _
    refine h g cap w' (by simpa [OwN] using h1) (((Below.refl B W).alloc hB _).grown h2 (by simp; omega) fun k hk => (OwN.lt hown k hk).1) ⟨h2.os, h2.tape, h2.output, by have := h2.size; simp at this; omega, fun k hk hne => ?_⟩ (by simpa using h3)
    rw [h2.block k (by simp; omega) hne]
    exact Below.heap_alloc _ _ _ hk
end
/-- Drawn numbers in memory of their own; the source goes on. -/
def DrV (w : World) (q m n : Nat) (e : Ending) (w' : World) : Prop := ∃ (u : Value) (xs : List Int), e = .returned u ∧ m ≤ xs.length ∧ xs.length ≤ n ∧ OwN w' w.heap.size u xs ∧ Src w' q ∧ Chg q (q + 1) w w'
set_option maxHeartbeats 8000000 in
set_option maxRecDepth 100000 in
theorem svec18_c {q n c : Nat} {p : Int} {a : Option Addr} {w : World} (hs : Src w q) (hp0 : 0 ≤ p) (hp2 : p ≤ 17) (hn : n ≤ 7) :
    Calls Try.prog 32 #[.pointer (some ⟨q, 0, none⟩), .agg #[.int .i64 p, .slice a n c]] w fun e w' => DrV w q n (n + 1) e w' := by
  by_cases hp1 : 1 < p
  all_goals
    have hq := hs.lt
    have hb1 : Below w.heap.size w ((w.alloc (.cells #[.int .i64 p, .slice a n c] 26)).alloc (.cells #[] 2)) := (by repeat (first | exact Below.refl _ _ | apply blw_drew | apply blw_alloc | (refine blw_set ?_ (by first | omega | (simp; done) | (simp; omega)) _) | refine below_chain ?_ (by assumption)))
    have hr1 : Bs (w.alloc (.cells #[.int .i64 p, .slice a n c] 26)) w.heap.size (.int .i64 p) (.slice a n c) := heap_alloc_new w _
    have hr := hr1.below (w' := (w.alloc (.cells #[.int .i64 p, .slice a n c] 26)).alloc (.cells #[] 2)) (by repeat (first | exact Below.refl _ _ | apply blw_drew | apply blw_alloc | (refine blw_set ?_ (by first | omega | (simp; done) | (simp; omega)) _) | refine below_chain ?_ (by assumption)))
    have hs1 := hs.below hb1
    have ho : OwN ((w.alloc (.cells #[.int .i64 p, .slice a n c] 26)).alloc (.cells #[] 2)) (w.heap.size + 1) (.slice (some ⟨w.heap.size + 1, 0, none⟩) 0 0) [] := by
      have h : OwN ((w.alloc (.cells #[.int .i64 p, .slice a n c] 26)).alloc (.cells #[] 2)) (w.heap.size + 1) (.slice (some ⟨(w.alloc (.cells #[.int .i64 p, .slice a n c] 26)).heap.size, 0, none⟩) 0 0) [] := World.ownsRow_made _ _ _ (by simp) (by decide) rfl
      rw [show (w.alloc (.cells #[.int .i64 p, .slice a n c] 26)).heap.size = w.heap.size + 1 by simp] at h
      exact h
    have hcw : Chg q (q + 1) w ((w.alloc (.cells #[.int .i64 p, .slice a n c] 26)).alloc (.cells #[] 2)) := Chg.below hb1
    have hz : w.heap.size + 1 ≤ ((w.alloc (.cells #[.int .i64 p, .slice a n c] 26)).alloc (.cells #[] 2)).heap.size := by simp
    clear hr1
    go_enter Try.func32, Try.ntmps32
    go_wp2
    go_loopw [5, 6] (fun u i wr => ∃ (k : Nat) (xs : List Int), k ≤ n ∧ i = .int .i64 k ∧ xs.length = k ∧ OwN wr (w.heap.size + 1) u xs ∧ Bs wr w.heap.size (.int .i64 p) (.slice a n c) ∧ Src wr q ∧ Chg q (q + 1) w wr ∧ w.heap.size + 1 ≤ wr.heap.size) (fun _ i _ => n - (intOf i).toNat)
    case atStart => exact ⟨0, [], Nat.zero_le _, rfl, rfl, ho, hr, hs1, hcw, hz⟩
    case round =>
      clear hr ho hs1 hcw hz hb1
      obtain ⟨k, xs, hk, rfl, hl, ho, hr, hsr, hcw, hz⟩ := hrel
      have e0 := hr.c0; have e1 := hr.c1
      have hform : ∃ ab cb, u5 = .slice ab xs.length cb := by
        obtain ⟨ab, nb, cb, rfl⟩ := ho.form
        obtain rfl : nb = xs.length := ho.len
        exact ⟨ab, cb, rfl⟩
      obtain ⟨ab, cb, rfl⟩ := hform
      have HL := Lib.hid hl; clear hl
      by_cases hlt : k < n
      · have hlt2 : (k : Int) < (n : Int) := by omega
        go_wp2_with fail
        refine (snext_c hsr (by omega) (by omega)).mono ?_; rintro e w3 ⟨x3, rfl, hx30, hx31, hs3, hc3, hzq⟩
        have hr := hr.chg hc3 (.inr (by omega)); have ho := ho.chg hc3 (by omega)
        have hcw := hcw.trans hc3
        have hz3 : w.heap.size + 1 ≤ w3.heap.size := by omega
        clear hc3 hsr hz hx31 hzq
        go_wp2_with (at_builtin; refine appn_one rfl _ _ rfl w3 (w.heap.size + 1) _ rfl (.slice ab xs.length cb) xs rfl x3 1 rfl ho (by omega) (by have := HL.out; omega) ?_; intro g' cap' w' hown' hgb' hg' hge)
        go_roundw
        case rel => exact ⟨k + 1, _, by omega, by go_num, by rw [List.length_append, HL.out]; rfl, hown', hr.bl hgb' (by omega), hs3.bl hgb' (by omega), hcw.bl (hgb'.mono (by omega)), by have := hgb'.size; omega⟩
        case measure => simp [intOf]; omega
      · obtain rfl : k = n := by omega
        have hlt2 : ¬ ((k : Int) < (k : Int)) := by omega
        go_wp2_with fail
        refine (snext_c hsr (by decide) (by decide)).mono ?_; rintro e w3 ⟨x3, rfl, hx30, hx31, hs3, hc3, hzq⟩
        have ho := ho.chg hc3 (by omega)
        have hcw := hcw.trans hc3
        have hz3 : w.heap.size + 1 ≤ w3.heap.size := by omega
        clear hc3 hsr hz hx31 hzq hr e0 e1
        by_cases hx : x3 = 0
        · subst hx
          go_wp2_with (at_builtin; refine appn_one rfl _ _ rfl w3 (w.heap.size + 1) _ rfl (.slice ab xs.length cb) xs rfl 0 1 rfl ho (by omega) (by have := HL.out; omega) ?_; intro g' cap' w' hown' hgb' hg' hge)
          go_ret
          exact ⟨_, _, rfl, by rw [List.length_append, HL.out]; omega, by rw [List.length_append, HL.out]; exact Nat.le_refl _, hown'.more_ (by omega), hs3.bl hgb' (by omega), hcw.bl (hgb'.mono (by omega))⟩
        · have hne : (x3 == 0) = false := by simpa using hx
          go_wp2_with fail
          go_ret
          exact ⟨_, _, rfl, by rw [HL.out]; exact Nat.le_refl _, by rw [HL.out]; omega, ho.more_ (by omega), hs3, hcw⟩
set_option maxHeartbeats 8000000 in
set_option maxRecDepth 100000 in
theorem sany18_c {q B : Nat} {p : Int} {v : Value} {sq : List Int} {w : World} (hs : Src w q) (hp0 : 0 ≤ p) (hp2 : p ≤ 17) (hn : sq.length ≤ 7) (ho : OwN w B v sq) (hB : q + 1 ≤ B) :
    Calls Try.prog 15 #[.pointer (some ⟨q, 0, none⟩), .agg #[.int .i64 p, v]] w fun e w' => DrV w q 0 10 e w' := by
  by_cases hp1 : 1 < p
  all_goals
    have hq := hs.lt
    obtain ⟨av, nv, cv, rfl⟩ := ho.form
    obtain rfl : nv = sq.length := ho.len
    have hb1 : Below w.heap.size w (w.alloc (.cells #[.int .i64 p, .slice av sq.length cv] 26)) := (by repeat (first | exact Below.refl _ _ | apply blw_drew | apply blw_alloc | (refine blw_set ?_ (by first | omega | (simp; done) | (simp; omega)) _) | refine below_chain ?_ (by assumption)))
    have hd1 : Bs (w.alloc (.cells #[.int .i64 p, .slice av sq.length cv] 26)) w.heap.size (.int .i64 p) (.slice av sq.length cv) := heap_alloc_new w _
    have hs1 := hs.below hb1
    have ho1 := ho.below hb1
    have hc1 : Chg q (q + 1) w (w.alloc (.cells #[.int .i64 p, .slice av sq.length cv] 26)) := Chg.below hb1
    have hz1 : w.heap.size + 1 ≤ (w.alloc (.cells #[.int .i64 p, .slice av sq.length cv] 26)).heap.size := by simp
    go_enter Try.func15, Try.ntmps15
    go_upto_region 1 with fail
    refine @region_flowR ⟨q, q + 1⟩ _ [(false, [(0, 0), (1, 1), (3, 0), (4, 0), (5, 1), (6, 0), (2, 5)]), (false, [(7, 4), (8, 0), (9, 0)])] _ _ _ _ _ (by kernel_rfl) ?_
    refine norm_K fun K hK => ?_
    change wpList _ _ _ [_, _, _, _, _, _, _] _ _
    have hbq : Below (w.alloc (.cells #[.int .i64 p, .slice av sq.length cv] 26)).heap.size (w.alloc (.cells #[.int .i64 p, .slice av sq.length cv] 26)) (w.alloc (.cells #[.int .i64 p, .slice av sq.length cv] 26)).drew := (by repeat (first | exact Below.refl _ _ | apply blw_drew | apply blw_alloc | (refine blw_set ?_ (by first | omega | (simp; done) | (simp; omega)) _) | refine below_chain ?_ (by assumption)))
    have hs2 := hs1.below hbq; have hd2 := hd1.below hbq; have ho2 := ho1.below hbq; have hc2 : Chg q (q + 1) w (w.alloc (.cells #[.int .i64 p, .slice av sq.length cv] 26)).drew := hc1.trans Chg.drew_
    have hz2 : w.heap.size + 1 ≤ (w.alloc (.cells #[.int .i64 p, .slice av sq.length cv] 26)).drew.heap.size := hz1
    clear hs1 hd1 ho1 hc1 hz1 hbq hb1 hs ho
    generalize (w.alloc (.cells #[.int .i64 p, .slice av sq.length cv] 26)).drew = wq at *
    have e0 := hd2.c0; have e1 := hd2.c1
    go_wp2_with fail
    refine (svec18_c (a := av) (c := cv) hs2 hp0 hp2 hn).mono ?_; rintro e w3 ⟨u5, xs5, rfl, hl5, hm5, ho5, hs3, hc3⟩
    have hd3 := hd2.chg hc3 (.inr (by omega)); have ho3 := ho2.chg hc3 (by omega)
    have hc3w := hc2.trans hc3
    have hz3 := hc3.size
    have ho5 := ho5.more_ (B' := w.heap.size + 1) hz2
    obtain ⟨a5, n5, c5, rfl⟩ := ho5.form
    obtain rfl : n5 = xs5.length := ho5.len
    go_wp2_with fail
    first | (refine hK _ _ ⟨hc3, ?_⟩; clear hK K) | refine ⟨hc3, ?_⟩
    refine norm_K fun K hK => ?_
    change wpList _ _ _ [_, _, _] _ _
    go_wp2_with fail
    refine (snext_c hs3 (by omega) (by omega)).mono ?_; rintro e w4 ⟨x6, rfl, hx60, hx61, hs4, hc4, hz4⟩
    have hx62 : p ≤ 1 ∨ x6 < p := by omega
    have hx63 : x6 ≤ 17 := by omega
    have hd4 := hd3.chg hc4 (.inr (by omega)); have ho4 := ho3.chg hc4 (by omega); have ho5 := ho5.chg hc4 (by omega)
    have hcw := hc3w.trans hc4
    have hz5 : w.heap.size + 1 ≤ w4.heap.size := by omega
    clear hx61
    go_wp2_with fail
    first | (refine hK _ _ ⟨⟨rfl, ?_⟩, ?_⟩; clear hK K) | refine ⟨⟨rfl, ?_⟩, ?_⟩
    · repeat' (first | exact trivial | exact ⟨_, rfl, (show w.heap.size < q ∨ q + 1 ≤ w.heap.size by omega), _, _, _, hd2⟩ | refine And.intro ?_ ?_)
    clear hd2 hd3 ho2 ho3 hs2 hs3 hc2 hc3 hc3w hc4 hz2 hz3 hz4 e0 e1
    have e0 := hd4.c0; have e1 := hd4.c1
    have hbA : Below w4.heap.size w4 (w4.alloc (.cells #[.slice a5 xs5.length c5] 24)) := (by repeat (first | exact Below.refl _ _ | apply blw_drew | apply blw_alloc | (refine blw_set ?_ (by first | omega | (simp; done) | (simp; omega)) _) | refine below_chain ?_ (by assumption)))
    have hoA := (ho4.below hbA).sl; have hoA5 := (ho5.below hbA).sl
    have hcon := scode_c (p := p) hoA (Rl.one (b := w4.heap.size) (c := 1) hoA5 (by simp [go_sem])) (by omega) (by simp) (by simp; omega)
    have e0 := kept hbA e0; have e1 := kept hbA e1
    go_wp2_with fail
    refine hcon.mono ?_; rintro e w5 ⟨rfl, hb5⟩
    have hb5 := below_chain hbA hb5
    have hd := hd4.below hb5; have ho := ho4.below hb5; have hv := ho5.below hb5; have hs := hs4.below hb5
    have hcw := hcw.bl (hb5.mono (by omega))
    have hz := Nat.le_trans hz5 hb5.size
    clear hd4 ho4 ho5 hs4 hbA hoA hoA5 hcon hb5 hz5 e0 e1
    have e0 := hd.c0; have e1 := hd.c1
    by_cases h0 : chkP p sq [xs5] [] = 0
    case neg =>
      obtain ⟨k, hk⟩ : ∃ k, k = chkP p sq [xs5] [] := ⟨_, rfl⟩
      rw [← hk] at h0 ⊢
      have hne : (k != 0) = true := by simpa using h0
      clear hk
      go_wp2_with (at_builtin; refine appn_two rfl _ _ rfl w5 (w.heap.size + 1) _ rfl (.slice a5 xs5.length c5) xs5 rfl 0 1 2 rfl hv (by omega) (by omega) ?_; intro g' cap' w' hown' hgb' hg' hge)
      go_ret
      exact ⟨_, _, rfl, Nat.zero_le _, by rw [List.length_append]; simp; omega, hown'.more_ (by omega), hs.bl hgb' (by omega), hcw.bl (hgb'.mono (by omega))⟩
    obtain ⟨g1, g2, g3, _⟩ := chkP_pos h0
    have hP := (isSp_iff.1 g1).1
    have hP1 := hP.lo
    have hP2 := hP.hi
    have hV := g3 xs5 (by simp)
    rw [h0]
    have H0 := Lib.hid h0; clear h0 g3
    all_goals try (exfalso; omega)
    all_goals
      go_wp2_with fail
      refine (snext_c hs (by decide) (by decide)).mono ?_; rintro e w6 ⟨x, rfl, hx0, hx1, hs6, hc6, hzq⟩
      have hd6 := hd.chg hc6 (.inr (by omega)); have ho6 := ho.chg hc6 (by omega); have hv6 := hv.chg hc6 (by omega)
      have hcw6 := hcw.trans hc6
      have hz6 : w.heap.size + 1 ≤ w6.heap.size := by omega
      clear hd ho hv hs hcw hz hc6 hzq e0 e1 hx1
      have e0 := hd6.c0; have e1 := hd6.c1
      by_cases hxa : x = 0
      · subst hxa
        go_wp2_with (at_builtin; refine appn_two rfl _ _ rfl w6 (w.heap.size + 1) _ rfl (.slice a5 xs5.length c5) xs5 rfl x6 x6 2 rfl hv6 (by omega) (by omega) ?_; intro g' cap' w' hown' hgb' hg' hge)
        go_ret
        exact ⟨_, _, rfl, Nat.zero_le _, by rw [List.length_append]; simp; omega, hown'.more_ (by omega), hs6.bl hgb' (by omega), hcw6.bl (hgb'.mono (by omega))⟩
      have hx0_ : (x == 0) = false := by simpa using hxa
      by_cases hxb : x = 1
      · subst hxb
        go_upto_region 8 with fail
        refine @region_flowR ⟨q, q + 1⟩ _ [(false, [(0, 0), (1, 0), (2, 0), (3, 1), (5, 0), (6, 0), (7, 1), (4, 5)]), (false, [(8, 4), (9, 4), (10, 4), (11, 0)])] _ _ _ _ _ (by kernel_rfl) ?_
        refine norm_K fun K hK => ?_
        change wpList _ _ _ [_, _, _, _, _, _, _, _] _ _
        have hbq : Below w6.heap.size w6 w6.drew := (by repeat (first | exact Below.refl _ _ | apply blw_drew | apply blw_alloc | (refine blw_set ?_ (by first | omega | (simp; done) | (simp; omega)) _) | refine below_chain ?_ (by assumption)))
        have hs7 := hs6.below hbq; have hd7 := hd6.below hbq; have ho7 := ho6.below hbq; have hv7 := hv6.below hbq; have hc7 : Chg q (q + 1) w w6.drew := hcw6.trans Chg.drew_
        have hz7 : w.heap.size + 1 ≤ w6.drew.heap.size := hz6
        clear hs6 hd6 ho6 hv6 hcw6 hz6 hbq e0 e1
        generalize w6.drew = wr at *
        have e0 := hd7.c0; have e1 := hd7.c1
        go_wp2_with fail
        refine (snext_c hs7 (by omega) (by omega)).mono ?_; rintro e w8 ⟨y1, rfl, hy10, hy11, hs8, hc8, hzq⟩
        have hd8 := hd7.chg hc8 (.inr (by omega)); have hv8 := hv7.chg hc8 (by omega)
        have hc8w := hc7.trans hc8
        have hz8 : w.heap.size + 1 ≤ w8.heap.size := by omega
        clear hzq
        go_wp2_with fail
        first | (refine hK _ _ ⟨hc8, ?_⟩; clear hK K) | refine ⟨hc8, ?_⟩
        refine norm_K fun K hK => ?_
        change wpList _ _ _ [_, _, _, _] _ _
        go_wp2_with fail
        refine (snext_c hs8 (by omega) (by omega)).mono ?_; rintro e w9 ⟨y2, rfl, hy20, hy21, hs9, hc9, hzq⟩
        have hv9 := hv8.chg hc9 (by omega)
        have hc9w := hc8w.trans hc9
        have hz9 : w.heap.size + 1 ≤ w9.heap.size := by omega
        clear hzq
        go_wp2_with (at_builtin; refine appn_two rfl _ _ rfl w9 (w.heap.size + 1) _ rfl (.slice a5 xs5.length c5) xs5 rfl y1 y2 2 rfl hv9 (by omega) (by omega) ?_; intro g' cap' w' hown' hgb' hg' hge)
        first | (refine hK _ _ ⟨⟨rfl, ?_⟩, ?_⟩; clear hK K) | refine ⟨⟨rfl, ?_⟩, ?_⟩
        · repeat' (first | exact trivial | exact ⟨_, rfl, (show w.heap.size < q ∨ q + 1 ≤ w.heap.size by omega), _, _, _, hd7⟩ | refine And.intro ?_ ?_)
        go_wp2_with fail
        go_ret
        exact ⟨_, _, rfl, Nat.zero_le _, by rw [List.length_append]; simp; omega, hown'.more_ (by omega), hs9.bl hgb' (by omega), hc9w.bl (hgb'.mono (by omega))⟩
      have hx1_ : (x == 1) = false := by simpa using hxb
      go_upto_region 9 with fail
      refine @region_flowR ⟨q, q + 1⟩ _ [(false, [(0, 0), (1, 1), (2, 0), (3, 0), (4, 1), (5, 0), (8, 1), (9, 0), (10, 0), (6, 5)]), (false, [(7, 0), (11, 5)]), (false, [(12, 4), (13, 0)])] _ _ _ _ _ (by kernel_rfl) ?_
      refine norm_K fun K hK => ?_
      change wpList _ _ _ [_, _, _, _, _, _, _, _, _, _] _ _
      have hbq : Below w6.heap.size w6 w6.drew := (by repeat (first | exact Below.refl _ _ | apply blw_drew | apply blw_alloc | (refine blw_set ?_ (by first | omega | (simp; done) | (simp; omega)) _) | refine below_chain ?_ (by assumption)))
      have hs7 := hs6.below hbq; have hd7 := hd6.below hbq; have ho7 := ho6.below hbq; have hv7 := hv6.below hbq; have hc7 : Chg q (q + 1) w w6.drew := hcw6.trans Chg.drew_
      have hz7 : w.heap.size + 1 ≤ w6.drew.heap.size := hz6
      clear hs6 hd6 ho6 hv6 hcw6 hz6 hbq e0 e1
      generalize w6.drew = wr at *
      have e0 := hd7.c0; have e1 := hd7.c1
      go_wp2_with fail
      refine (snext_c hs7 (by omega) (by omega)).mono ?_; rintro e w8 ⟨y1, rfl, hy10, hy11, hs8, hc8, hzq⟩
      have hd8 := hd7.chg hc8 (.inr (by omega)); have hv8 := hv7.chg hc8 (by omega); have ho8 := ho7.chg hc8 (by omega)
      have hc8w := hc7.trans hc8
      have hz8 : w.heap.size + 1 ≤ w8.heap.size := by omega
      have hy12 : y1 ≤ 17 := by omega
      clear hzq hy11
      go_wp2_with fail
      first | (refine hK _ _ ⟨hc8, ?_⟩; clear hK K) | refine ⟨hc8, ?_⟩
      refine norm_K fun K hK => ?_
      change wpList _ _ _ [_, _] _ _
      have hR : inR x6 0 (p - 1) = true := by
        unfold inR
        rw [Bool.and_eq_true, decide_eq_true_eq, decide_eq_true_eq]; omega
      go_wp2_with fail
      refine (ssphere_c g1 ho8.sl hv8.sl hV hR).mono ?_; rintro e w9 ⟨u9, rfl, hu9, hb9⟩
      have hs9 := hs8.below hb9
      have hc9w := hc8w.bl (hb9.mono (by omega))
      have hz9 := Nat.le_trans hz8 hb9.size
      have hc9 : Chg q (q + 1) wr w9 := hc8.bl (hb9.mono hc8.size)
      go_wp2_with fail
      first | (refine hK _ _ ⟨hc9, ?_⟩; clear hK K) | refine ⟨hc9, ?_⟩
      refine norm_K fun K hK => ?_
      change wpList _ _ _ [_, _] _ _
      have hsl : (sphereL p sq xs5 x6).length = sq.length + 2 := by
        unfold sphereL
        rw [plusL_len (by rw [infL_len, pointL_len (isV_iff.1 hV).1]), pointL_len (isV_iff.1 hV).1]
      have hsf : Fp p (sphereL p sq xs5 x6) := plusL_fp (by omega)
      have HSL := Lib.hid hsl; clear hsl
      go_wp2_with fail
      refine (sscale_c (by omega) (by omega) (by omega) (by omega) hu9.sl (hsf.sm (by omega) (by decide)) (by rw [HSL.out]; omega)).mono ?_; rintro e w10 ⟨u10, rfl, hu10, hb10⟩
      go_wp2_with fail
      first | (refine hK _ _ ⟨⟨rfl, ?_⟩, ?_⟩; clear hK K) | refine ⟨⟨rfl, ?_⟩, ?_⟩
      · repeat' (first | exact trivial | exact ⟨_, rfl, (show w.heap.size < q ∨ q + 1 ≤ w.heap.size by omega), _, _, _, hd7⟩ | refine And.intro ?_ ?_)
      go_wp2_with fail
      go_ret
      exact ⟨_, _, rfl, Nat.zero_le _, by rw [scaleL_len, HSL.out]; omega, (FrI.own hu10).more_ (by omega), hs9.below hb10, hc9w.bl (hb10.mono (by omega))⟩
end Go.Proofs.Ytklnpikkkekonaa
