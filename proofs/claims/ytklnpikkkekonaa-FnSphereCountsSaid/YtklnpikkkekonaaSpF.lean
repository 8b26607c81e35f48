/-
  DrawCountOnSphere, and the laws' bound on codes.
-/
import Derived.Test.YtklnpikkkekonaaSpE
namespace Go.Proofs.Ytklnpikkkekonaa
open Go.RowKit

/-- A drawn space and a drawn vector. -/
def DrC (w : World) (e : Ending) (w' : World) : Prop := ∃ (p : Int) (v u : Value) (sq xs : List Int), e = .returned (.tuple #[.agg #[.int .i64 p, v], u]) ∧ sq.length ≤ 7 ∧ xs.length ≤ 10 ∧ OwN w' w.heap.size v sq ∧ OwN w' w.heap.size u xs ∧ Below w.heap.size w w'
set_option maxHeartbeats 8000000 in
set_option maxRecDepth 100000 in
theorem sdrawcs_c {v : Value} {n : Nat} {w : World} (hc : Co w w.heap.size v n) :
    Calls Try.prog 5 #[v] w fun e w' => DrC w e w' := by
  obtain ⟨a, c, rfl, _⟩ := id hc
  go_enter Try.func5, Try.ntmps5
  go_wp2_with fail
  obtain ⟨wA, hwA⟩ : ∃ x, x = (w.alloc (.cells #[.int .i64 0, .slice none 0 0] 26)) := ⟨_, rfl⟩
  have hbA : Below w.heap.size w wA := by rw [hwA]; exact (by repeat (first | exact Below.refl _ _ | apply blw_drew | apply blw_alloc | (refine blw_set ?_ (by first | omega | (simp; done) | (simp; omega)) _) | refine below_chain ?_ (by assumption)))
  have hrA : Bs wA w.heap.size (.int .i64 0) (.slice none 0 0) := by rw [hwA]; exact heap_alloc_new w _
  have hzA : wA.heap.size = w.heap.size + 1 := by rw [hwA]; simp
  rw [← hwA]; clear hwA
  refine (sfrom_c ((hc.below hbA).wide (by omega))).mono ?_; rintro e w1 ⟨rfl, hs1, hz1, hb1⟩
  have hr1 := hrA.below hb1
  have hbw1 : Below w.heap.size w w1 := hbA.trans (hb1.mono (by omega))
  obtain ⟨q, hq⟩ : ∃ q, q = wA.heap.size := ⟨_, rfl⟩
  rw [← hq] at hs1 hz1 hzA ⊢
  have hqw : w.heap.size < q := by omega
  have hq1 : q + 1 = w1.heap.size := by omega
  have HQ := Lib.hid hq1; clear hzA hz1 hbA hrA hb1 hq hq1
  have hb2 : Below w1.heap.size w1 (w1.alloc (.cells #[.int .i64 1, .int .i64 2, .int .i64 2, .int .i64 3] 2)) := (by repeat (first | exact Below.refl _ _ | apply blw_drew | apply blw_alloc | (refine blw_set ?_ (by first | omega | (simp; done) | (simp; omega)) _) | refine below_chain ?_ (by assumption)))
  have o2 := OwnI.lit (w := w1) (B := 0) (Nat.zero_le _) [1, 2, 2, 3] (by simp)
  have hqq : w1.heap.size ≠ q := by have := hs1.lt; omega
  go_wp2_with fail
  refine (spick_c (xs := [1, 2, 2, 3]) (hs1.below hb2) o2 hqq (by decide) (by decide)).mono ?_; rintro e w2 ⟨m, rfl, hm, hs2, hc2, hzq⟩
  have hm2 : 1 ≤ m ∧ m ≤ 6 := by simp at hm; omega
  have hr2 := (hr1.below hb2).chg hc2 (.inl (by omega))
  have hcw2 : Chg q (q + 1) w1 w2 := (Chg.below hb2).trans hc2
  clear hm o2 hqq hb2 hc2 hzq hs1 hr1
  go_wp2_with fail
  refine (sany_c hs2 hm2.1 hm2.2).mono ?_; rintro e w3 ⟨p, v3, sq, rfl, hp1, hp2, hl1, hl2, ho3, hs3, hc3⟩
  have hr3 := hr2.chg hc3 (.inl (by omega))
  have hz2 := hcw2.size
  have hcw3 := hcw2.trans hc3
  have ho3 := ho3.more_ (B' := q + 1) (by have := HQ.out; omega)
  obtain ⟨a3, n3, c3, rfl⟩ := ho3.form
  obtain rfl : n3 = sq.length := ho3.len
  clear hs2 hr2 hc3 hz2 hcw2
  have hz3 := hcw3.size
  have hd4 : Bs (w3.alloc (.cells #[.int .i64 p, .slice a3 sq.length c3] 26)) w3.heap.size (.int .i64 p) (.slice a3 sq.length c3) := heap_alloc_new w3 _
  have hb4 : Below w3.heap.size w3 (w3.alloc (.cells #[.int .i64 p, .slice a3 sq.length c3] 26)) := (by repeat (first | exact Below.refl _ _ | apply blw_drew | apply blw_alloc | (refine blw_set ?_ (by first | omega | (simp; done) | (simp; omega)) _) | refine below_chain ?_ (by assumption)))
  have hr4 := hr3.below hb4; have hs4 := hs3.below hb4; have ho4 := ho3.below hb4
  have hcw4 : Chg q (q + 1) w1 (w3.alloc (.cells #[.int .i64 p, .slice a3 sq.length c3] 26)) := hcw3.bl (hb4.mono hz3)
  have hz4 : (w3.alloc (.cells #[.int .i64 p, .slice a3 sq.length c3] 26)).heap.size = w3.heap.size + 1 := by simp
  have hv3 := fun g hg => (OwN.lt ho3 g hg)
  obtain ⟨N, hN⟩ : ∃ N, N = w3.heap.size := ⟨_, rfl⟩
  have hNq : q + 1 ≤ N := by have := HQ.out; omega
  go_wp2_with fail
  rw [← hN] at hd4 hz4 hv3 ⊢
  generalize w3.alloc (.cells #[.int .i64 p, .slice a3 sq.length c3] 26) = W4 at *
  clear hr3 hs3 ho3 hcw3 hz3 hb4 hN
  refine (snext_c hs4 (by decide) (by decide)).mono ?_; rintro e w5 ⟨x, rfl, _, _, hs5, hc5, hzq⟩
  have hd5 := hd4.chg hc5 (.inr (by omega)); have hr5 := hr4.chg hc5 (.inl (by omega)); have ho5 := ho4.chg hc5 (by omega)
  have hcw5 := hcw4.trans hc5
  have hz5 : N + 1 ≤ w5.heap.size := by omega
  clear hzq hz4 hd4 hr4 hs4 ho4 hcw4 hc5
  have e0 := hd5.c0; have e1 := hd5.c1; have u0 := hd5.f 0; have u1 := hd5.f 1
  by_cases hx : x = 0
  · subst hx
    go_wp2_with fail
    refine (sspoil_c hs5).mono ?_; rintro e w6 ⟨p6, v6, sq6, rfl, hp71, hp72, _, hl7, ho6, hs6, hc6⟩
    have hd6 := hd5.chg hc6 (.inr (by omega)); have hr6 := hr5.chg hc6 (.inl (by omega))
    have hcw6 := hcw5.trans hc6
    have hz6 := Nat.le_trans hz5 hc6.size
    obtain ⟨a6, n6, c6, rfl⟩ := ho6.form
    obtain rfl : n6 = sq6.length := ho6.len
    have ho6 := ho6.more_ (B' := N + 1) hz5
    clear hd5 hr5 hs5 ho5 hcw5 hc6 hz5 e0 e1 u0 u1
    have e0 := hd6.c0; have e1 := hd6.c1; have u0 := hd6.f 0; have u1 := hd6.f 1
    have hd6 := (hd6.set0 (.int .i64 p6)).set1 (.slice a6 sq6.length c6)
    have hr6 := hr6.bl (B := w.heap.size + 1) (((Below.refl _ _).setCell (p := ⟨N, 0, none⟩) (by show _ ≤ N; omega) (.int .i64 p6)).setCell (p := ⟨N, 1, none⟩) (by show _ ≤ N; omega) (.slice a6 sq6.length c6)) (by omega)
    have hs6 := hs6.bl (B := q + 1) (((Below.refl _ _).setCell (p := ⟨N, 0, none⟩) (by show _ ≤ N; omega) (.int .i64 p6)).setCell (p := ⟨N, 1, none⟩) (by show _ ≤ N; omega) (.slice a6 sq6.length c6)) (by omega)
    have hcw6 := hcw6.bl (((Below.refl w1.heap.size _).setCell (p := ⟨N, 0, none⟩) (by show _ ≤ N; have := HQ.out; omega) (.int .i64 p6)).setCell (p := ⟨N, 1, none⟩) (by show _ ≤ N; have := HQ.out; omega) (.slice a6 sq6.length c6))
    have ho6 : OwN ((w6.setCell ⟨N, 0, none⟩ (.int .i64 p6)).setCell ⟨N, 1, none⟩ (.slice a6 sq6.length c6)) (q + 1) (.slice a6 sq6.length c6) sq6 := ((ho6.set_ (p := ⟨N, 0, none⟩) (by show N < _; omega) _).set_ (p := ⟨N, 1, none⟩) (by show N < _; omega) _).more_ (by omega)
    have hz6 : N + 1 ≤ ((w6.setCell ⟨N, 0, none⟩ (.int .i64 p6)).setCell ⟨N, 1, none⟩ (.slice a6 sq6.length c6)).heap.size := by simpa using hz6
    go_wp2_with fail
    go_upto_region 5 with fail
    refine @region_flowR ⟨q, q + 1⟩ _ [(false, [(0, 1), (1, 0), (2, 1), (3, 5)]), (false, [(4, 4), (5, 0)])] _ _ _ _ _ (by kernel_rfl) ?_
    refine norm_K fun K hK => ?_
    change wpList _ _ _ [_, _, _, _] _ _
    have hbq : Below ((w6.setCell ⟨N, 0, none⟩ (.int .i64 p6)).setCell ⟨N, 1, none⟩ (.slice a6 sq6.length c6)).heap.size ((w6.setCell ⟨N, 0, none⟩ (.int .i64 p6)).setCell ⟨N, 1, none⟩ (.slice a6 sq6.length c6)) ((w6.setCell ⟨N, 0, none⟩ (.int .i64 p6)).setCell ⟨N, 1, none⟩ (.slice a6 sq6.length c6)).drew := (by repeat (first | exact Below.refl _ _ | apply blw_drew | apply blw_alloc | (refine blw_set ?_ (by first | omega | (simp; done) | (simp; omega)) _) | refine below_chain ?_ (by assumption)))
    have hs7 := hs6.below hbq; have hd7 := hd6.below hbq; have ho7 := ho6.below hbq; have hr7 := hr6.below hbq; have hc7 : Chg q (q + 1) w1 ((w6.setCell ⟨N, 0, none⟩ (.int .i64 p6)).setCell ⟨N, 1, none⟩ (.slice a6 sq6.length c6)).drew := hcw6.trans Chg.drew_
    have hz7 : N + 1 ≤ ((w6.setCell ⟨N, 0, none⟩ (.int .i64 p6)).setCell ⟨N, 1, none⟩ (.slice a6 sq6.length c6)).drew.heap.size := hz6
    clear hs6 hd6 ho6 hr6 hcw6 hz6 hbq
    generalize ((w6.setCell ⟨N, 0, none⟩ (.int .i64 p6)).setCell ⟨N, 1, none⟩ (.slice a6 sq6.length c6)).drew = wr at *
    have e0 := hd7.c0; have e1 := hd7.c1
    go_wp2_with fail
    refine (sany18_c hs7 hp71 hp72 hl7 ho7 (Nat.le_refl _)).mono ?_; rintro e w8 ⟨u8, xs8, rfl, _, hl8, ho8, hs8, hc8⟩
    have ho9 := ho7.chg hc8 (Nat.le_refl _)
    have hr9 := hr7.chg hc8 (.inl (by omega))
    have hc9 := hc7.trans hc8
    obtain ⟨a8, n8, c8, rfl⟩ := ho8.form
    obtain rfl : n8 = xs8.length := ho8.len
    have rc0 := hr9.c0; have rc1 := hr9.c1; have rf0 := hr9.f 0; have rf1 := hr9.f 1
    go_wp2_with fail
    first | (refine hK _ _ ⟨hc8, ?_⟩; clear hK K) | refine ⟨hc8, ?_⟩
    refine norm_K fun K hK => ?_
    change wpList _ _ _ [_, _] _ _
    go_wp2_with fail
    first | (refine hK _ _ ⟨⟨rfl, ?_⟩, ?_⟩; clear hK K) | refine ⟨⟨rfl, ?_⟩, ?_⟩
    · repeat' (first | exact trivial | exact ⟨_, rfl, (show N < q ∨ q + 1 ≤ N by omega), _, _, _, hd7⟩ | refine And.intro ?_ ?_)
    have hz8 : w.heap.size + 1 ≤ wr.heap.size := by omega
    clear hd7 e0 e1 hs7 hc7 hz7 hs8 hc8 ho7 hr7
    go_wp2_with fail
    refine bodyPost_ret (v := .tuple #[.agg #[.int .i64 p6, .slice a6 sq6.length c6], .slice a8 xs8.length c8]) (by simp [results, Try.results5, go_sem, rc0, rc1]) rfl ?_
    refine ⟨_, _, _, sq6, xs8, rfl, hl7, hl8, ?_, ?_, ?_⟩
    · exact ((ho9.set_ (p := ⟨w.heap.size, 0, none⟩) (by show w.heap.size < _; omega) _).set_ (p := ⟨w.heap.size, 1, none⟩) (by show w.heap.size < _; omega) _).more_ (by omega)
    · exact ((ho8.set_ (p := ⟨w.heap.size, 0, none⟩) (by show w.heap.size < _; omega) _).set_ (p := ⟨w.heap.size, 1, none⟩) (by show w.heap.size < _; omega) _).more_ (by omega)
    · exact ((below_bchg hbw1 hc9 (by omega) hbw1.size).setCell (p := ⟨w.heap.size, 0, none⟩) (Nat.le_refl _) _).setCell (p := ⟨w.heap.size, 1, none⟩) (Nat.le_refl _) _
  · have hne : (x == 0) = false := by simpa using hx
    have hd6 := hd5; have hr6 := hr5; have hs6 := hs5; have ho6 := ho5; have hcw6 := hcw5; have hz6 := hz5
    have hp71 : 0 ≤ p := by omega
    have hp72 : p ≤ 17 := by omega
    have hl7 : sq.length ≤ 7 := by omega
    clear hd5 hr5 hs5 ho5 hcw5 hz5
    go_upto_region 5 with fail
    refine @region_flowR ⟨q, q + 1⟩ _ [(false, [(0, 1), (1, 0), (2, 1), (3, 5)]), (false, [(4, 4), (5, 0)])] _ _ _ _ _ (by kernel_rfl) ?_
    refine norm_K fun K hK => ?_
    change wpList _ _ _ [_, _, _, _] _ _
    have hbq : Below w5.heap.size w5 w5.drew := (by repeat (first | exact Below.refl _ _ | apply blw_drew | apply blw_alloc | (refine blw_set ?_ (by first | omega | (simp; done) | (simp; omega)) _) | refine below_chain ?_ (by assumption)))
    have hs7 := hs6.below hbq; have hd7 := hd6.below hbq; have ho7 := ho6.below hbq; have hr7 := hr6.below hbq; have hc7 : Chg q (q + 1) w1 w5.drew := hcw6.trans Chg.drew_
    have hz7 : N + 1 ≤ w5.drew.heap.size := hz6
    clear hs6 hd6 ho6 hr6 hcw6 hz6 hbq
    generalize w5.drew = wr at *
    have e0 := hd7.c0; have e1 := hd7.c1
    go_wp2_with fail
    refine (sany18_c hs7 hp71 hp72 hl7 ho7 (Nat.le_refl _)).mono ?_; rintro e w8 ⟨u8, xs8, rfl, _, hl8, ho8, hs8, hc8⟩
    have ho9 := ho7.chg hc8 (Nat.le_refl _)
    have hr9 := hr7.chg hc8 (.inl (by omega))
    have hc9 := hc7.trans hc8
    obtain ⟨a8, n8, c8, rfl⟩ := ho8.form
    obtain rfl : n8 = xs8.length := ho8.len
    have rc0 := hr9.c0; have rc1 := hr9.c1; have rf0 := hr9.f 0; have rf1 := hr9.f 1
    go_wp2_with fail
    first | (refine hK _ _ ⟨hc8, ?_⟩; clear hK K) | refine ⟨hc8, ?_⟩
    refine norm_K fun K hK => ?_
    change wpList _ _ _ [_, _] _ _
    go_wp2_with fail
    first | (refine hK _ _ ⟨⟨rfl, ?_⟩, ?_⟩; clear hK K) | refine ⟨⟨rfl, ?_⟩, ?_⟩
    · repeat' (first | exact trivial | exact ⟨_, rfl, (show N < q ∨ q + 1 ≤ N by omega), _, _, _, hd7⟩ | refine And.intro ?_ ?_)
    have hz8 : w.heap.size + 1 ≤ wr.heap.size := by omega
    clear hd7 e0 e1 hs7 hc7 hz7 hs8 hc8 ho7 hr7
    go_wp2_with fail
    refine bodyPost_ret (v := .tuple #[.agg #[.int .i64 p, .slice a3 sq.length c3], .slice a8 xs8.length c8]) (by simp [results, Try.results5, go_sem, rc0, rc1]) rfl ?_
    refine ⟨_, _, _, sq, xs8, rfl, hl7, hl8, ?_, ?_, ?_⟩
    · exact ((ho9.set_ (p := ⟨w.heap.size, 0, none⟩) (by show w.heap.size < _; omega) _).set_ (p := ⟨w.heap.size, 1, none⟩) (by show w.heap.size < _; omega) _).more_ (by omega)
    · exact ((ho8.set_ (p := ⟨w.heap.size, 0, none⟩) (by show w.heap.size < _; omega) _).set_ (p := ⟨w.heap.size, 1, none⟩) (by show w.heap.size < _; omega) _).more_ (by omega)
    · exact ((below_bchg hbw1 hc9 (by omega) hbw1.size).setCell (p := ⟨w.heap.size, 0, none⟩) (Nat.le_refl _) _).setCell (p := ⟨w.heap.size, 1, none⟩) (Nat.le_refl _) _
theorem big_c {a : Option Addr} {n c : Nat} {w : World} (hn : n ≤ 9223372036854775807) :
    Calls Try.prog 4 #[.slice a n c] w fun e w' => e = .returned (.bool (decide (4096 < n))) ∧ w = w' := by
  by_cases h : 4096 < n
  · have h2 : (4096 : Int) < (n : Int) := by omega
    rw [decide_eq_true h]
    go_enter Try.func4, Try.ntmps4
    go_wp2
    go_ret
    exact ⟨rfl, rfl⟩
  · have h2 : ¬ (4096 : Int) < (n : Int) := by omega
    rw [decide_eq_false h]
    go_enter Try.func4, Try.ntmps4
    go_wp2
    go_ret
    exact ⟨rfl, rfl⟩
end Go.Proofs.Ytklnpikkkekonaa
