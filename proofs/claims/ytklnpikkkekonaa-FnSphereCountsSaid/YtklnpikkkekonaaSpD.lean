/-
  Draws of spaces.
-/
import Derived.Test.YtklnpikkkekonaaFlowS
namespace Go.Proofs.Ytklnpikkkekonaa
open Go.RowKit

/-- A space's two cells in a block. -/
def Bs (w : World) (b : Nat) (x y : Value) : Prop := w.heap[b]? = some (.cells #[x, y] 26 (0, 0))
section
variable {w w' : World} {b : Nat} {x y : Value}
theorem Bs.lt (h : Bs w b x y) : b < w.heap.size := (Array.getElem?_eq_some_iff.1 h).1
theorem Bs.c0 (h : Bs w b x y) : w.cell? ⟨b, 0, none⟩ = some x := by
  unfold Bs at h; simp [World.cell?, h]
theorem Bs.c1 (h : Bs w b x y) : w.cell? ⟨b, 1, none⟩ = some y := by
  unfold Bs at h; simp [World.cell?, h]
theorem Bs.f (h : Bs w b x y) (k : Nat) : w.frozen? ⟨b, k, none⟩ = false := frozen_of_row _ _ _ _ _ h
theorem Bs.bl {B : Nat} (h : Bs w b x y) (hb : Below B w w') (hl : b < B) : Bs w' b x y := by
  unfold Bs at h ⊢
  rw [hb.block b hl]; exact h
theorem Bs.below (h : Bs w b x y) (hb : Below w.heap.size w w') : Bs w' b x y := h.bl hb h.lt
theorem Bs.chg {lo hi : Nat} (h : Bs w b x y) (hc : Chg lo hi w w') (hr : b < lo ∨ hi ≤ b) : Bs w' b x y := by
  have hl := h.lt
  unfold Bs at h ⊢
  rw [hc.block b hl hr]; exact h
theorem Bs.set0 (h : Bs w b x y) (v : Value) : Bs (w.setCell ⟨b, 0, none⟩ v) b v y := heap_setCell_same _ _ _ _ _ _ h
theorem Bs.set1 (h : Bs w b x y) (v : Value) : Bs (w.setCell ⟨b, 1, none⟩ v) b x v := heap_setCell_same _ _ _ _ _ _ h
theorem Bs.grown {row : Option Nat} (h : Bs w b x y) (hg : w.grownBy w' row) (hne : row ≠ some b) : Bs w' b x y := by
  have hl := h.lt
  unfold Bs at h ⊢
  rw [hg.block b hl (fun e => hne e.symm)]; exact h
end
/-- A drawn space: its prime within bounds, so many squares, in memory of its own; the source goes on. -/
def DrS (w : World) (q : Nat) (lo hi : Int) (m n : Nat) (e : Ending) (w' : World) : Prop := ∃ (p : Int) (v : Value) (sq : List Int), e = .returned (.agg #[.int .i64 p, v]) ∧ lo ≤ p ∧ p ≤ hi ∧ m ≤ sq.length ∧ sq.length ≤ n ∧ OwN w' w.heap.size v sq ∧ Src w' q ∧ Chg q (q + 1) w w'
theorem sdprime_c {q : Nat} {w : World} (hs : Src w q) :
    Calls Try.prog 30 #[.pointer (some ⟨q, 0, none⟩)] w fun e w' => ∃ p : Int, e = .returned (.int .i64 p) ∧ 3 ≤ p ∧ p ≤ 13 ∧ Src w' q ∧ Chg q (q + 1) w w' := by
  have hq := hs.lt
  have hb1 : Below w.heap.size w (w.alloc (.cells #[.int .i64 3, .int .i64 5, .int .i64 7, .int .i64 11, .int .i64 13, .int .i64 3, .int .i64 5, .int .i64 7] 2)) := (by repeat (first | exact Below.refl _ _ | apply blw_drew | apply blw_alloc | (refine blw_set ?_ (by first | omega | (simp; done) | (simp; omega)) _) | refine below_chain ?_ (by assumption)))
  have o1 := OwnI.lit (w := w) (B := 0) (Nat.zero_le _) [3, 5, 7, 11, 13, 3, 5, 7] (by simp)
  go_enter Try.func30, Try.ntmps30
  go_wp2_with fail
  refine (spick_c (xs := [3, 5, 7, 11, 13, 3, 5, 7]) (hs.below hb1) o1 (by omega) (by decide) (by decide)).mono ?_; rintro e w1 ⟨p, rfl, hp, hs1, hc1, _⟩
  have hp2 : 3 ≤ p ∧ p ≤ 13 := by simp at hp; omega
  clear hp o1
  go_wp2_with fail
  go_ret
  exact ⟨p, rfl, hp2.1, hp2.2, hs1, (Chg.below hb1).trans hc1⟩
set_option maxHeartbeats 16000000 in
set_option maxRecDepth 100000 in
theorem sany_c {q : Nat} {m : Int} {w : World} (hs : Src w q) (hm1 : 1 ≤ m) (hm2 : m ≤ 6) :
    Calls Try.prog 11 #[.pointer (some ⟨q, 0, none⟩), .int .i64 m] w fun e w' => DrS w q 3 13 1 6 e w' := by
  have hq := hs.lt
  have hb1 : Below w.heap.size w (w.alloc (.cells #[.int .i64 0, .slice none 0 0] 26)) := (by repeat (first | exact Below.refl _ _ | apply blw_drew | apply blw_alloc | (refine blw_set ?_ (by first | omega | (simp; done) | (simp; omega)) _) | refine below_chain ?_ (by assumption)))
  have hr1 : Bs (w.alloc (.cells #[.int .i64 0, .slice none 0 0] 26)) w.heap.size (.int .i64 0) (.slice none 0 0) := heap_alloc_new w _
  have hz1 : (w.alloc (.cells #[.int .i64 0, .slice none 0 0] 26)).heap.size = w.heap.size + 1 := by simp
  go_enter Try.func11, Try.ntmps11
  go_wp2_with fail
  refine (sdprime_c (hs.below hb1)).mono ?_; rintro e w1 ⟨p, rfl, hp1, hp2, hs1, hc1⟩
  have hr1 := hr1.chg hc1 (.inr (by omega))
  have hcw1 : Chg q (q + 1) w w1 := ((Chg.refl).bl hb1).trans hc1
  have hzz := hc1.size
  rw [hz1] at hzz
  clear hc1 hb1 hz1 hs
  obtain ⟨N, hN⟩ : ∃ N, N = w1.heap.size := ⟨_, rfl⟩
  have hb2 : Below w1.heap.size w1 (w1.alloc (.cells #[.int .i64 p, .slice none 0 0] 26)) := (by repeat (first | exact Below.refl _ _ | apply blw_drew | apply blw_alloc | (refine blw_set ?_ (by first | omega | (simp; done) | (simp; omega)) _) | refine below_chain ?_ (by assumption)))
  have hd2 : Bs (w1.alloc (.cells #[.int .i64 p, .slice none 0 0] 26)) w1.heap.size (.int .i64 p) (.slice none 0 0) := heap_alloc_new w1 _
  have hz2 : (w1.alloc (.cells #[.int .i64 p, .slice none 0 0] 26)).heap.size = w1.heap.size + 1 := by simp
  go_wp2_with fail
  refine (snext_c (hs1.below hb2) (by omega) (by omega)).mono ?_; rintro e w2 ⟨x, rfl, hx0, hx1, hs2, hc2, hz3⟩
  rw [← hN] at hd2 hz2 hzz ⊢
  have hd := hd2.chg hc2 (.inr (by omega)); have hr := (hr1.below hb2).chg hc2 (.inr (by omega))
  have hcw : Chg q (q + 1) w w2 := (hcw1.bl (hb2.mono (by omega))).trans hc2
  have hNz : N + 1 ≤ w2.heap.size := by omega
  have hx2 : x ≤ 5 := by omega
  have HN := Lib.hid hN
  clear hN hz2 hz3 hd2 hr1 hcw1 hc2 hs1 hb2 hx1
  go_wp2
  go_loopw [7] (fun i wr => ∃ (k : Int) (v : Value) (sq : List Int), i = .int .i64 k ∧ 0 ≤ k ∧ k ≤ 6 ∧ (sq.length : Int) + k = 1 + x ∧ Bs wr N (.int .i64 p) v ∧ OwN wr (N + 1) v sq ∧ Bs wr w.heap.size (.int .i64 0) (.slice none 0 0) ∧ Src wr q ∧ Chg q (q + 1) w wr ∧ N + 1 ≤ wr.heap.size) (fun i _ => (intOf i).toNat)
  case atStart => exact ⟨_, _, [], rfl, by omega, by omega, by simp, hd, OwN.nil _ _, hr, hs2, hcw, hNz⟩
  case round =>
    clear hd hr hs2 hcw hNz
    obtain ⟨k, v, sq, rfl, hk1, hk2, hl1, hd, ho, hr, hsr, hcr, hsz⟩ := hrel
    have e0 := hd.c0; have e1 := hd.c1
    by_cases hlt : 0 < k
    · go_wp2_with fail
      refine (snext_c hsr (by omega) (by omega)).mono ?_; rintro e w3 ⟨x3, rfl, hx30, hx31, hs3, hc3, hz3⟩
      have hd := hd.chg hc3 (.inr (by omega)); have hr := hr.chg hc3 (.inr (by omega)); have ho := ho.chg hc3 (by omega)
      have hcw := hcr.trans hc3
      have hx3 : x3 ≤ 13 := by omega
      have hsz3 : N + 1 ≤ w3.heap.size := by omega
      clear hcr hsr hc3 hx31 hz3
      have hb4 : Below w3.heap.size w3 (w3.alloc (.cells #[.int .i64 1, .int .i64 (p - 1), .int .i64 (1 + x3), .int .i64 1] 2)) := (by repeat (first | exact Below.refl _ _ | apply blw_drew | apply blw_alloc | (refine blw_set ?_ (by first | omega | (simp; done) | (simp; omega)) _) | refine below_chain ?_ (by assumption)))
      have o4 := OwnI.lit (w := w3) (B := 0) (Nat.zero_le _) [1, p - 1, 1 + x3, 1] (by simp)
      go_wp2_with fail
      refine (spick_c (xs := [1, p - 1, 1 + x3, 1]) (hs3.below hb4) o4 (by have := hs3.lt; omega) (by simp) (by simp)).mono ?_; rintro e w4 ⟨y, rfl, _, hs4, hc4, hz4⟩
      have hd4 := (hd.below hb4).chg hc4 (.inr (by omega)); have hr4 := (hr.below hb4).chg hc4 (.inr (by omega)); have ho4 := (ho.below hb4).chg hc4 (by omega)
      have hcw4 : Chg q (q + 1) w w4 := (hcw.bl (hb4.mono (by have := hcw.size; omega))).trans hc4
      have hsz4 : N + 1 ≤ w4.heap.size := by have := hc4.size; simp at this; omega
      clear hd hr ho hcw hc4 hb4 hs3 hz4 o4
      go_wp2_with fail
      refine (snext_c hs4 (by decide) (by decide)).mono ?_; rintro e w5 ⟨x5, rfl, _, _, hs5, hc5, hz5⟩
      have hd := hd4.chg hc5 (.inr (by omega)); have hr := hr4.chg hc5 (.inr (by omega)); have ho := ho4.chg hc5 (by omega)
      have hcw := hcw4.trans hc5
      have hsz5 : N + 1 ≤ w5.heap.size := by omega
      clear hd4 hr4 ho4 hcw4 hc5 hs4 hz5 hsz4
      have e0 := hd.c0; have e1 := hd.c1; have u1 := hd.f 1
      by_cases hx : x5 = 0
      all_goals
        first
        | (subst hx)
        | (have hne : (x5 == 0) = false := by simpa using hx)
        go_wp2_with (at_builtin; refine appn_one rfl _ _ rfl w5 (N + 1) _ rfl v sq rfl _ 1 rfl ho (by omega) (by omega) ?_; intro g' cap' w' hown' hgb' hg' hge; have hd' := hd.bl hgb' (by omega); have e0 := hd'.c0; have e1 := hd'.c1; have u1 := hd'.f 1)
        go_wp2
        go_roundw
        case rel =>
          have hl2 : ∀ z : Int, ((sq ++ [z]).length : Int) + (k - 1) = 1 + x := fun z => by rw [List.length_append]; simp; omega
          have ho2 := hown'.set_ (p := ⟨N, 1, none⟩) (by show N < _; omega) (.slice (some ⟨g', 0, none⟩) (sq.length + 1) cap')
          have hr2 := (hr.bl hgb' (by omega)).bl (B := w.heap.size + 1) ((Below.refl _ _).setCell (p := ⟨N, 1, none⟩) (by show _ ≤ N; omega) (.slice (some ⟨g', 0, none⟩) (sq.length + 1) cap')) (by omega)
          have hs2 := (hs5.bl hgb' (by omega)).bl (B := q + 1) ((Below.refl _ _).setCell (p := ⟨N, 1, none⟩) (by show _ ≤ N; omega) (.slice (some ⟨g', 0, none⟩) (sq.length + 1) cap')) (by omega)
          have hc2 := hcw.bl ((hgb'.mono (by omega)).setCell (p := ⟨N, 1, none⟩) (by show _ ≤ N; omega) (.slice (some ⟨g', 0, none⟩) (sq.length + 1) cap'))
          exact ⟨k - 1, _, _, by go_num, by omega, by omega, hl2 _, hd'.set1 _, ho2, hr2, hs2, hc2, by have := hgb'.size; simp; omega⟩
        case measure => simp [intOf]; omega
    · obtain ⟨av, nv, cv, rfl⟩ := ho.form
      have rc0 := hr.c0; have rc1 := hr.c1; have rf0 := hr.f 0; have rf1 := hr.f 1
      go_wp2_with fail
      refine bodyPost_ret (v := .agg #[.int .i64 p, .slice av nv cv]) (by simp [results, Try.results11, go_sem, rc0, rc1]) rfl ?_
      refine ⟨p, _, sq, rfl, hp1, hp2, by omega, by omega, ?_, ?_, ?_⟩
      · exact ((ho.set_ (p := ⟨w.heap.size, 0, none⟩) (by show w.heap.size < _; omega) _).set_ (p := ⟨w.heap.size, 1, none⟩) (by show w.heap.size < _; omega) _).more_ (by omega)
      · exact hsr.bl (B := q + 1) (((Below.refl _ _).setCell (p := ⟨w.heap.size, 0, none⟩) (by show _ ≤ w.heap.size; omega) _).setCell (p := ⟨w.heap.size, 1, none⟩) (by show _ ≤ w.heap.size; omega) _) (by omega)
      · exact hcr.bl (((Below.refl _ _).setCell (p := ⟨w.heap.size, 0, none⟩) (Nat.le_refl _) _).setCell (p := ⟨w.heap.size, 1, none⟩) (Nat.le_refl _) _)
theorem sdraw03_c {q : Nat} {w : World} (hs : Src w q) :
    Calls Try.prog 31 #[.pointer (some ⟨q, 0, none⟩)] w fun e w' => DrS w q 3 13 1 6 e w' := by
  have hq := hs.lt
  have hb1 : Below w.heap.size w ((w.alloc (.cells #[.int .i64 0, .slice none 0 0] 26)).alloc (.cells #[.int .i64 2, .int .i64 3, .int .i64 3, .int .i64 4, .int .i64 6] 2)) := (by repeat (first | exact Below.refl _ _ | apply blw_drew | apply blw_alloc | (refine blw_set ?_ (by first | omega | (simp; done) | (simp; omega)) _) | refine below_chain ?_ (by assumption)))
  have hr1 : Bs (w.alloc (.cells #[.int .i64 0, .slice none 0 0] 26)) w.heap.size (.int .i64 0) (.slice none 0 0) := heap_alloc_new w _
  have o1 := OwnI.lit (w := w.alloc (.cells #[.int .i64 0, .slice none 0 0] 26)) (B := 0) (Nat.zero_le _) [2, 3, 3, 4, 6] (by simp)
  rw [show (w.alloc (.cells #[.int .i64 0, .slice none 0 0] 26)).heap.size = w.heap.size + 1 by simp] at o1
  have hr2 := hr1.below (w' := (w.alloc (.cells #[.int .i64 0, .slice none 0 0] 26)).alloc (.cells #[.int .i64 2, .int .i64 3, .int .i64 3, .int .i64 4, .int .i64 6] 2)) (by repeat (first | exact Below.refl _ _ | apply blw_drew | apply blw_alloc | (refine blw_set ?_ (by first | omega | (simp; done) | (simp; omega)) _) | refine below_chain ?_ (by assumption)))
  go_enter Try.func31, Try.ntmps31
  go_wp2_with fail
  refine (spick_c (xs := [2, 3, 3, 4, 6]) (hs.below hb1) o1 (by omega) (by decide) (by decide)).mono ?_; rintro e w1 ⟨m, rfl, hm, hs1, hc1, hz1⟩
  have hm2 : 1 ≤ m ∧ m ≤ 6 := by simp at hm; omega
  have hr := hr2.chg hc1 (.inr (by omega))
  have hcw : Chg q (q + 1) w w1 := ((Chg.refl).bl hb1).trans hc1
  have hsz : w.heap.size + 1 + 1 = w1.heap.size := by simp at hz1; omega
  clear hm o1 hr1 hr2 hb1 hc1 hz1
  have HSZ := Lib.hid hsz; clear hsz
  go_wp2_with fail
  refine (sany_c hs1 hm2.1 hm2.2).mono ?_; rintro e w2 ⟨p, v, sq, rfl, hp1, hp2, hl1, hl2, ho, hs2, hc2⟩
  have hsz := HSZ.out
  have hr := hr.chg hc2 (.inr (by omega))
  have hcw := hcw.trans hc2
  have hzz : w.heap.size + 1 ≤ w1.heap.size := by omega
  clear hsz hc2
  obtain ⟨av, nv, cv, rfl⟩ := ho.form
  have rc0 := hr.c0; have rc1 := hr.c1; have rf0 := hr.f 0; have rf1 := hr.f 1
  go_wp2_with fail
  refine bodyPost_ret (v := .agg #[.int .i64 p, .slice av nv cv]) (by simp [results, Try.results31, go_sem, rc0, rc1]) rfl ?_
  refine ⟨p, _, sq, rfl, hp1, hp2, hl1, hl2, ?_, ?_, ?_⟩
  · exact ((ho.set_ (p := ⟨w.heap.size, 0, none⟩) (by show w.heap.size < _; omega) _).set_ (p := ⟨w.heap.size, 1, none⟩) (by show w.heap.size < _; omega) _).more_ (by omega)
  · exact hs2.bl (B := q + 1) (((Below.refl _ _).setCell (p := ⟨w.heap.size, 0, none⟩) (by show _ ≤ w.heap.size; omega) _).setCell (p := ⟨w.heap.size, 1, none⟩) (by show _ ≤ w.heap.size; omega) _) (by omega)
  · exact hcw.bl (((Below.refl _ _).setCell (p := ⟨w.heap.size, 0, none⟩) (Nat.le_refl _) _).setCell (p := ⟨w.heap.size, 1, none⟩) (Nat.le_refl _) _)
def sqLeft (w : World) (N : Nat) : Nat := match w.cell? ⟨N, 1, none⟩ with
  | some (.slice _ n _) => 7 - n
  | _ => 0
theorem sqLeft_eq {w : World} {N n c : Nat} {a : Option Addr} (h : w.cell? ⟨N, 1, none⟩ = some (.slice a n c)) : sqLeft w N = 7 - n := by
  unfold sqLeft; rw [h]
set_option maxHeartbeats 8000000 in
set_option maxRecDepth 100000 in
theorem sspoil_c {q : Nat} {w : World} (hs : Src w q) :
    Calls Try.prog 14 #[.pointer (some ⟨q, 0, none⟩)] w fun e w' => DrS w q 0 17 0 7 e w' := by
  have hq := hs.lt
  have hbA : Below w.heap.size w (w.alloc (.cells #[.int .i64 0, .slice none 0 0] 26)) := (by repeat (first | exact Below.refl _ _ | apply blw_drew | apply blw_alloc | (refine blw_set ?_ (by first | omega | (simp; done) | (simp; omega)) _) | refine below_chain ?_ (by assumption)))
  have hrA : Bs (w.alloc (.cells #[.int .i64 0, .slice none 0 0] 26)) w.heap.size (.int .i64 0) (.slice none 0 0) := heap_alloc_new w _
  have hzA : (w.alloc (.cells #[.int .i64 0, .slice none 0 0] 26)).heap.size = w.heap.size + 1 := by simp
  have hsA := hs.below hbA
  go_enter Try.func14, Try.ntmps14
  go_wp2_with fail
  refine (sdraw03_c hsA).mono ?_; rintro e w1 ⟨p, v, sq, rfl, hp1, hp2, hlo, hl, ho, hs1, hc1⟩
  have hz1 := hc1.size
  rw [hzA] at ho hz1
  have hr1 := hrA.chg hc1 (.inr (by omega))
  have hcw1 : Chg q (q + 1) w w1 := (Chg.refl.bl hbA).trans hc1
  clear hrA hzA hbA hsA hc1 hs
  obtain ⟨av, nv, cv, rfl⟩ := ho.form
  obtain rfl : nv = sq.length := ho.len
  have hvN := fun g hg => (OwN.lt ho g hg).2
  obtain ⟨W2, hW2⟩ : ∃ x, x = (w1.alloc (.cells #[.int .i64 p, .slice av sq.length cv] 26)) := ⟨_, rfl⟩
  have hb2 : Below w1.heap.size w1 W2 := by rw [hW2]; exact (by repeat (first | exact Below.refl _ _ | apply blw_drew | apply blw_alloc | (refine blw_set ?_ (by first | omega | (simp; done) | (simp; omega)) _) | refine below_chain ?_ (by assumption)))
  have hd2 : Bs W2 w1.heap.size (.int .i64 p) (.slice av sq.length cv) := by rw [hW2]; exact heap_alloc_new w1 _
  have hz2 : w1.heap.size + 1 = W2.heap.size := by rw [hW2]; simp
  go_wp2_with fail
  rw [← hW2]; clear hW2
  refine (snext_c (hs1.below hb2) (by decide) (by decide)).mono ?_; rintro e w2 ⟨x, rfl, hx0, hx1, hs2, hc2, hz3⟩
  obtain ⟨N, hN⟩ : ∃ N, N = w1.heap.size := ⟨_, rfl⟩
  rw [← hN] at hd2 hz2 hvN hz1 ⊢
  have hd := hd2.chg hc2 (.inr (by omega)); have hr := (hr1.below hb2).chg hc2 (.inr (by omega)); have ho := (ho.below hb2).chg hc2 (by omega)
  have hcw : Chg q (q + 1) w w2 := (hcw1.bl (hb2.mono (by omega))).trans hc2
  have hNz : N + 1 ≤ w2.heap.size := by omega
  have HN := Lib.hid hN; clear hN hz2 hz3 hd2 hr1 hcw1 hc2 hs1 hb2
  have e0 := hd.c0; have e1 := hd.c1; have u0 := hd.f 0; have u1 := hd.f 1
  by_cases hxa : x = 0
  · subst hxa
    have hb4 : Below w2.heap.size w2 (w2.alloc (.cells #[.int .i64 4, .int .i64 1, .int .i64 17, .int .i64 0] 2)) := (by repeat (first | exact Below.refl _ _ | apply blw_drew | apply blw_alloc | (refine blw_set ?_ (by first | omega | (simp; done) | (simp; omega)) _) | refine below_chain ?_ (by assumption)))
    have o4 := OwnI.lit (w := w2) (B := 0) (Nat.zero_le _) [4, 1, 17, 0] (by simp)
    go_wp2_with fail
    refine (spick_c (xs := [4, 1, 17, 0]) (hs2.below hb4) o4 (by have := hs2.lt; omega) (by decide) (by decide)).mono ?_; rintro e w3 ⟨y, rfl, hy, hs3, hc3, hz3⟩
    have hy2 : 0 ≤ y ∧ y ≤ 17 := by simp at hy; omega
    clear hy o4 hz3
    have hd3 := (hd.below hb4).chg hc3 (.inr (by omega)); have hr3 := (hr.below hb4).chg hc3 (.inr (by omega)); have ho3 := (ho.below hb4).chg hc3 (by omega)
    have hcw3 : Chg q (q + 1) w w3 := (hcw.bl (hb4.mono (by have := hcw.size; omega))).trans hc3
    have u0 := hd3.f 0; have u1 := hd3.f 1; have a0 := hd3.c0; have a1 := hd3.c1
    have hd := hd3.set0 (.int .i64 y)
    have ho := OwN.setN (N := N) (k := 0) ho3 (fun g hg => by have := hvN g hg; omega) (.int .i64 y)
    have hr := hr3.bl (B := w.heap.size + 1) ((Below.refl _ _).setCell (p := ⟨N, 0, none⟩) (by show _ ≤ N; omega) (.int .i64 y)) (by omega)
    have hs2 := hs3.bl (B := q + 1) ((Below.refl _ _).setCell (p := ⟨N, 0, none⟩) (by show _ ≤ N; omega) (.int .i64 y)) (by omega)
    have hcw := hcw3.bl ((Below.refl _ _).setCell (p := ⟨N, 0, none⟩) (by show _ ≤ N; omega) (.int .i64 y))
    have rc0 := hr.c0; have rc1 := hr.c1; have rf0 := hr.f 0; have rf1 := hr.f 1; have e0 := hd.c0; have e1 := hd.c1
    go_wp2_with fail
    refine bodyPost_ret (v := .agg #[.int .i64 y, .slice av sq.length cv]) (by simp [results, Try.results14, go_sem, rc0, rc1]) rfl ?_
    refine ⟨y, _, sq, rfl, by omega, by omega, by omega, by omega, ?_, ?_, ?_⟩
    · exact ((ho.set_ (p := ⟨w.heap.size, 0, none⟩) (by show w.heap.size < _; omega) _).set_ (p := ⟨w.heap.size, 1, none⟩) (by show w.heap.size < _; omega) _).more_ (by omega)
    · exact hs2.bl (B := q + 1) (((Below.refl _ _).setCell (p := ⟨w.heap.size, 0, none⟩) (by show _ ≤ w.heap.size; omega) _).setCell (p := ⟨w.heap.size, 1, none⟩) (by show _ ≤ w.heap.size; omega) _) (by omega)
    · exact hcw.bl (((Below.refl _ _).setCell (p := ⟨w.heap.size, 0, none⟩) (Nat.le_refl _) _).setCell (p := ⟨w.heap.size, 1, none⟩) (Nat.le_refl _) _)
  have hx0_ : (x == 0) = false := by simpa using hxa
  by_cases hxb : x = 1
  · subst hxb
    go_upto_region 6 with fail
    refine @region_flowR ⟨q, q + 1⟩ _ [(false, [(0, 0), (1, 1), (2, 0), (3, 0), (4, 1), (5, 5)]), (false, [(6, 5)]), (false, [(7, 0), (8, 4)])] _ _ _ _ _ (by kernel_rfl) ?_
    refine norm_K fun K hK => ?_
    change wpList _ _ _ [_, _, _, _, _, _] _ _
    have hbq : Below w2.heap.size w2 w2.drew := (by repeat (first | exact Below.refl _ _ | apply blw_drew | apply blw_alloc | (refine blw_set ?_ (by first | omega | (simp; done) | (simp; omega)) _) | refine below_chain ?_ (by assumption)))
    have hsd := hs2.below hbq; have hdd := hd.below hbq; have hod := ho.below hbq; have hrd := hr.below hbq
    have hcd : Chg q (q + 1) w w2.drew := hcw.trans Chg.drew_
    have hzd : N + 1 ≤ w2.drew.heap.size := hNz
    generalize w2.drew = wq at *
    have e0 := hdd.c0; have e1 := hdd.c1
    go_wp2_with fail
    first | (refine hK _ _ ⟨Chg.below (blw_alloc (Below.refl _ _) _), ?_⟩; clear hK K) | refine ⟨Chg.below (blw_alloc (Below.refl _ _) _), ?_⟩
    refine norm_K fun K hK => ?_
    change wpList _ _ _ [_] _ _
    have hb5 : Below wq.heap.size wq (wq.alloc (.cells #[.int .i64 (-1), .int .i64 p] 2)) := (by repeat (first | exact Below.refl _ _ | apply blw_drew | apply blw_alloc | (refine blw_set ?_ (by first | omega | (simp; done) | (simp; omega)) _) | refine below_chain ?_ (by assumption)))
    have o5 := OwnI.lit (w := wq) (B := 0) (Nat.zero_le _) [-1, p] (by simp)
    go_wp2_with fail
    refine (spick_c (xs := [-1, p]) (hsd.below hb5) o5 (by have := hsd.lt; omega) (by simp) (by simp)).mono ?_; rintro e w3 ⟨y, rfl, hy, hs3, hc3, hz3⟩
    have hz3b : N + 1 ≤ w3.heap.size := by simp at hz3; omega
    have hd3 := (hdd.below hb5).chg hc3 (.inr (by omega)); have hr3 := (hrd.below hb5).chg hc3 (.inr (by omega)); have ho3 := (hod.below hb5).chg hc3 (by omega)
    have hc35 : Chg q (q + 1) wq w3 := (Chg.below hb5).trans hc3
    have HZ3 := Lib.hid hz3; clear hz3 o5 hy
    obtain ⟨g, cap, e, hoi⟩ := ho3.fr (by omega)
    cases e
    have hgN := hvN g rfl
    have hfr := hoi.free 0
    have hs0 := hoi.set (i := 0) y
    have hgl := hoi.lt
    have hc0 := hoi.at 0 (by omega)
    rw [Nat.zero_add] at hc0
    go_wp2_with fail
    first | (refine hK _ _ ⟨hc35, ?_⟩; clear hK K) | refine ⟨hc35, ?_⟩
    refine norm_K fun K hK => ?_
    change wpList _ _ _ [_, _] _ _
    go_wp2_with fail
    first | (refine hK _ _ ⟨⟨rfl, ?_⟩, ?_⟩; clear hK K) | refine ⟨⟨rfl, ?_⟩, ?_⟩
    · repeat' (first | exact trivial | exact ⟨_, rfl, (show N < q ∨ q + 1 ≤ N by omega), _, _, _, hdd⟩ | refine And.intro ?_ ?_)
    have hset := Chg.set w3 ⟨g, 0, none⟩ (.int .i64 y)
    have hd := hd3.chg hset (.inr (by show g + 1 ≤ N; omega))
    have hr := hr3.chg hset (.inl (by show w.heap.size < g; omega))
    have hs2 := hs3.bl (B := q + 1) ((Below.refl _ _).setCell (p := ⟨g, 0, none⟩) (by show _ ≤ g; omega) (.int .i64 y)) (by omega)
    have hcw := (hcd.trans hc35).bl ((Below.refl _ _).setCell (p := ⟨g, 0, none⟩) (by show _ ≤ g; omega) (.int .i64 y))
    have hl0 : (sq.set 0 y).length = sq.length := by simp
    have ho : OwN (w3.setCell ⟨g, 0, none⟩ (.int .i64 y)) (w.heap.size + 1) (.slice (some ⟨g, 0, none⟩) sq.length cv) (sq.set 0 y) := by
      have h := hs0
      unfold OwnI at h; unfold OwN; rw [hl0]; exact h
    have rc0 := hr.c0; have rc1 := hr.c1; have rf0 := hr.f 0; have rf1 := hr.f 1; have e0 := hd.c0; have e1 := hd.c1
    go_wp2_with fail
    refine bodyPost_ret (v := .agg #[.int .i64 p, .slice (some ⟨g, 0, none⟩) sq.length cv]) (by simp [results, Try.results14, go_sem, rc0, rc1]) rfl ?_
    refine ⟨p, _, sq.set 0 y, rfl, by omega, by omega, by first | omega | simp, by first | omega | simp | (simp; omega), ?_, ?_, ?_⟩
    · exact ((ho.set_ (p := ⟨w.heap.size, 0, none⟩) (by show w.heap.size < _; omega) _).set_ (p := ⟨w.heap.size, 1, none⟩) (by show w.heap.size < _; omega) _).more_ (by omega)
    · exact hs2.bl (B := q + 1) (((Below.refl _ _).setCell (p := ⟨w.heap.size, 0, none⟩) (by show _ ≤ w.heap.size; omega) _).setCell (p := ⟨w.heap.size, 1, none⟩) (by show _ ≤ w.heap.size; omega) _) (by omega)
    · exact hcw.bl (((Below.refl _ _).setCell (p := ⟨w.heap.size, 0, none⟩) (Nat.le_refl _) _).setCell (p := ⟨w.heap.size, 1, none⟩) (Nat.le_refl _) _)
  have hx1_ : (x == 1) = false := by simpa using hxb
  by_cases hxc : x = 2
  · subst hxc
    have hb4 : Below w2.heap.size w2 (w2.alloc (.cells #[] 2)) := (by repeat (first | exact Below.refl _ _ | apply blw_drew | apply blw_alloc | (refine blw_set ?_ (by first | omega | (simp; done) | (simp; omega)) _) | refine below_chain ?_ (by assumption)))
    have hm2z := hcw.size
    have o4 : OwN (w2.alloc (.cells #[] 2)) (w.heap.size + 1) (.slice (some ⟨w2.heap.size, 0, none⟩) 0 0) [] := World.ownsRow_made _ _ _ (by omega) (by decide) rfl
    have hd4 := hd.below hb4; have hr4 := hr.below hb4; have hs4 := hs2.below hb4
    have hcw4 := hcw.bl (hb4.mono hm2z)
    have u1 := hd4.f 1; have a0 := hd4.c0; have a1 := hd4.c1
    have hzz4 : (w2.alloc (.cells #[] 2)).heap.size = w2.heap.size + 1 := by simp
    have hd := hd4.set1 (.slice (some ⟨w2.heap.size, 0, none⟩) 0 0)
    have ho := OwN.setN (N := N) (k := 1) o4 (fun g hg => by have e : w2.heap.size = g := Option.some.inj hg; omega) (.slice (some ⟨w2.heap.size, 0, none⟩) 0 0)
    have hr := hr4.bl (B := w.heap.size + 1) ((Below.refl _ _).setCell (p := ⟨N, 1, none⟩) (by show _ ≤ N; omega) (.slice (some ⟨w2.heap.size, 0, none⟩) 0 0)) (by omega)
    have hs2 := hs4.bl (B := q + 1) ((Below.refl _ _).setCell (p := ⟨N, 1, none⟩) (by show _ ≤ N; omega) (.slice (some ⟨w2.heap.size, 0, none⟩) 0 0)) (by omega)
    have hcw := hcw4.bl ((Below.refl _ _).setCell (p := ⟨N, 1, none⟩) (by show _ ≤ N; omega) (.slice (some ⟨w2.heap.size, 0, none⟩) 0 0))
    have rc0 := hr.c0; have rc1 := hr.c1; have rf0 := hr.f 0; have rf1 := hr.f 1; have e0 := hd.c0; have e1 := hd.c1
    clear hzz4 hm2z
    go_wp2_with fail
    refine bodyPost_ret (v := .agg #[.int .i64 p, .slice (some ⟨w2.heap.size, 0, none⟩) 0 0]) (by simp [results, Try.results14, go_sem, rc0, rc1]) rfl ?_
    refine ⟨p, _, [], rfl, by omega, by omega, by first | omega | simp, by first | omega | simp | (simp; omega), ?_, ?_, ?_⟩
    · exact ((ho.set_ (p := ⟨w.heap.size, 0, none⟩) (by show w.heap.size < _; omega) _).set_ (p := ⟨w.heap.size, 1, none⟩) (by show w.heap.size < _; omega) _).more_ (by omega)
    · exact hs2.bl (B := q + 1) (((Below.refl _ _).setCell (p := ⟨w.heap.size, 0, none⟩) (by show _ ≤ w.heap.size; omega) _).setCell (p := ⟨w.heap.size, 1, none⟩) (by show _ ≤ w.heap.size; omega) _) (by omega)
    · exact hcw.bl (((Below.refl _ _).setCell (p := ⟨w.heap.size, 0, none⟩) (Nat.le_refl _) _).setCell (p := ⟨w.heap.size, 1, none⟩) (Nat.le_refl _) _)
  have hx2_ : (x == 2) = false := by simpa using hxc
  by_cases hxd : x = 3
  · subst hxd
    go_wp2
    go_loopw [30] (fun _ wr => ∃ (a : Option Addr) (c : Nat) (st : List Int), st.length ≤ 7 ∧ Bs wr N (.int .i64 p) (.slice a st.length c) ∧ OwN wr (w.heap.size + 1) (.slice a st.length c) st ∧ (∀ g, (Value.slice a st.length c).ownBlock = some g → g ≠ N) ∧ Bs wr w.heap.size (.int .i64 0) (.slice none 0 0) ∧ Src wr q ∧ Chg q (q + 1) w wr ∧ N + 1 ≤ wr.heap.size) (fun _ wr => sqLeft wr N)
    case atStart => exact ⟨av, cv, sq, by omega, hd, ho, fun g hg => by have := hvN g hg; omega, hr, hs2, hcw, hNz⟩
    case round =>
      clear hd hr ho hcw hs2 e0 e1 u0 u1 hvN
      obtain ⟨a, c, st, hl5, hd, ho, hvN, hr, hs2, hcw, hNz2⟩ := hrel
      have e0 := hd.c0; have e1 := hd.c1
      by_cases hlt : st.length < 7
      · have hlt2 : ((st.length : Nat) : Int) < 7 := by omega
        go_wp2_with (at_builtin; refine appn_one rfl _ _ rfl wr (w.heap.size + 1) _ rfl (.slice a st.length c) st rfl 1 1 rfl ho (by omega) (by omega) ?_; intro g' cap' w' hown' hgb' hg' hge; have hd' := hd.grown hg' (fun e => hvN N e rfl); have a0 := hd'.c0; have a1 := hd'.c1; have u0 := hd'.f 0; have u1 := hd'.f 1)
        have hg'N : g' ≠ N := by
          rcases hge with h | h
          · exact hvN g' h
          · omega
        have hds := hd'.set1 (.slice (some ⟨g', 0, none⟩) (st.length + 1) cap')
        have e1' := hds.c1
        go_wp2
        go_roundw
        case rel =>
          refine ⟨some ⟨g', 0, none⟩, cap', st ++ [1], by rw [List.length_append]; simp; omega, by rw [List.length_append]; exact hds, by rw [List.length_append]; exact OwN.setN (N := N) (k := 1) hown' (fun g hg => by have e : g' = g := Option.some.inj hg; omega) _, fun g hg => by have e : g' = g := Option.some.inj hg; omega, ?_, ?_, ?_, ?_⟩
          · exact (hr.bl hgb' (by omega)).bl (B := w.heap.size + 1) ((Below.refl _ _).setCell (p := ⟨N, 1, none⟩) (by show _ ≤ N; omega) _) (by omega)
          · exact (hs2.bl hgb' (by omega)).bl (B := q + 1) ((Below.refl _ _).setCell (p := ⟨N, 1, none⟩) (by show _ ≤ N; omega) _) (by omega)
          · exact hcw.bl ((hgb'.mono (by omega)).setCell (p := ⟨N, 1, none⟩) (by show _ ≤ N; omega) _)
          · have := hgb'.size; simp; omega
        case measure => rw [sqLeft_eq e1', sqLeft_eq e1]; omega
      · have hlt2 : ¬ ((st.length : Nat) : Int) < 7 := by omega
        have rc0 := hr.c0; have rc1 := hr.c1; have rf0 := hr.f 0; have rf1 := hr.f 1; have e0 := hd.c0; have e1 := hd.c1
        go_wp2_with fail
        refine bodyPost_ret (v := .agg #[.int .i64 p, .slice a st.length c]) (by simp [results, Try.results14, go_sem, rc0, rc1]) rfl ?_
        refine ⟨p, _, st, rfl, by omega, by omega, by simp, by omega, ?_, ?_, ?_⟩
        · exact ((ho.set_ (p := ⟨w.heap.size, 0, none⟩) (by show w.heap.size < _; omega) _).set_ (p := ⟨w.heap.size, 1, none⟩) (by show w.heap.size < _; omega) _).more_ (by omega)
        · exact hs2.bl (B := q + 1) (((Below.refl _ _).setCell (p := ⟨w.heap.size, 0, none⟩) (by show _ ≤ w.heap.size; omega) _).setCell (p := ⟨w.heap.size, 1, none⟩) (by show _ ≤ w.heap.size; omega) _) (by omega)
        · exact hcw.bl (((Below.refl _ _).setCell (p := ⟨w.heap.size, 0, none⟩) (Nat.le_refl _) _).setCell (p := ⟨w.heap.size, 1, none⟩) (Nat.le_refl _) _)
  have hx3_ : (x == 3) = false := by simpa using hxd
  have rc0 := hr.c0; have rc1 := hr.c1; have rf0 := hr.f 0; have rf1 := hr.f 1; have e0 := hd.c0; have e1 := hd.c1
  go_wp2_with fail
  refine bodyPost_ret (v := .agg #[.int .i64 p, .slice av sq.length cv]) (by simp [results, Try.results14, go_sem, rc0, rc1]) rfl ?_
  refine ⟨p, _, sq, rfl, by omega, by omega, by simp, by omega, ?_, ?_, ?_⟩
  · exact ((ho.set_ (p := ⟨w.heap.size, 0, none⟩) (by show w.heap.size < _; omega) _).set_ (p := ⟨w.heap.size, 1, none⟩) (by show w.heap.size < _; omega) _).more_ (by omega)
  · exact hs2.bl (B := q + 1) (((Below.refl _ _).setCell (p := ⟨w.heap.size, 0, none⟩) (by show _ ≤ w.heap.size; omega) _).setCell (p := ⟨w.heap.size, 1, none⟩) (by show _ ≤ w.heap.size; omega) _) (by omega)
  · exact hcw.bl (((Below.refl _ _).setCell (p := ⟨w.heap.size, 0, none⟩) (Nat.le_refl _) _).setCell (p := ⟨w.heap.size, 1, none⟩) (Nat.le_refl _) _)
end Go.Proofs.Ytklnpikkkekonaa
