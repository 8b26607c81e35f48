/- Texts joined for a claim: HcN, HcO, CJordanPower, JorA. -/
import Derived.Test.YtacfanjejaellaaGreatHcM
import Derived.Test.YtacfanjejaellaaGreatJbf
import Derived.Test.YtacfanjejaellaaGreatJaq
import Derived.Test.YtacfanjejaellaaGreatHcZ
import Derived.Test.YtacfanjejaellaaGreatJbp
/-
  The program's unit matrix.
-/
namespace Go.Proofs.YtacfanjejaellaaGreat
open Go.RowKit

theorem own_arr {W : World} {C : Array Value} {ys : List Int} (h : C.toList = ys.map (Value.int .i64)) (hm : ys.length ≤ 1048576) : OwnI (W.alloc (.cells C 2)) W.heap.size W.heap.size ys.length ys.length ys := by
  have hc : C.size = ys.length := by rw [← Array.length_toList, h, List.length_map]
  exact OwnI.mk_ (Nat.le_refl _) (heap_alloc_new W _) hc (by rw [h, List.take_of_length_le (by simp)]) (Nat.le_refl _) (by simp only [maxLen]; omega)
theorem three_ones {n : Nat} : (((List.replicate (3 + (n + n + n)) (0 : Int)).set 0 1).set 1 1).set 2 1 = 1 :: 1 :: 1 :: List.replicate (n + n + n) 0 := by
  rw [Nat.add_comm 3]
  rfl
theorem unit_rows {n : Nat} : (⟨((1 : Int) :: 1 :: 1 :: List.replicate (n + n + n) 0).take 3, [((((1 : Int) :: 1 :: 1 :: List.replicate (n + n + n) 0).drop 3).drop 0).take n, ((((1 : Int) :: 1 :: 1 :: List.replicate (n + n + n) 0).drop 3).drop n).take n, ((((1 : Int) :: 1 :: 1 :: List.replicate (n + n + n) 0).drop 3).drop (n + n)).take n]⟩ : Her) = unitH n := by
  unfold unitH
  simp only [List.take_succ_cons, List.take_zero, List.drop_succ_cons, List.drop_zero, List.drop_replicate, List.take_replicate]
  rw [show min n (n + n + n - 0 - 0) = n by omega, show min n (n + n + n - 0 - n) = n by omega, show min n (n + n + n - 0 - (n + n)) = n by omega, show min 0 (n + n + n) = 0 by omega]
  rfl
set_option maxHeartbeats 1000000 in
set_option maxRecDepth 100000 in
theorem junit_c {p : Int} {s : Value} {st : List Int} {w : World} (hs : El w s st) (hl3 : st.length ≤ 3) :
    Calls Tryz.prog 80 #[.agg #[.int .i64 p, s]] w fun e w' => ∃ v, e = .returned v ∧ FrH w' w.heap.size v (unitH (sz st.length)) ∧ Below w.heap.size w w' := by
  obtain ⟨n, hn⟩ : ∃ n, n = sz st.length := ⟨_, rfl⟩
  have hn1 : 1 ≤ n ∧ n ≤ 8 := by rw [hn]; exact ⟨Nat.pow_pos (by decide), Nat.le_trans (Nat.pow_le_pow_right (by decide) hl3) (by decide)⟩
  obtain ⟨a0, c0, rfl, _⟩ := id hs.op
  have hsc := fun W => size_c (w := W) (p := p) (a := a0) (n := st.length) (c := c0) (by omega)
  have hcon := fun (W : World) (s x : Value) (xs : List Int) (hs : El W s st) hx hl => herm_c (w := W) (p := p) (s := s) (x := x) (xs := xs) hs hl3 hn hx hl
  rw [← hn]
  simp only [← hn] at hsc
  clear hn
  obtain ⟨N, hN⟩ : ∃ N, N = 3 + (n + n + n) := ⟨_, rfl⟩
  have hNI : (N : Int) = 3 + 3 * (n : Int) := by omega
  have hN1 : 6 ≤ N ∧ N ≤ 27 := by omega
  have hmk := fun W => run_make_row' (P := Tryz.prog) 24 2 (.int .i64 0) 8 Tryz.underlying24 infoI rfl .i64 .i64 N (by omega) (by omega) W
  have hys := three_ones (n := n)
  rw [← hN] at hys
  simp only [hNI] at hmk
  have o0 := fun (W : World) => own_arr (W := W) (C := madeCells #[Value.int .i64 0] N) (ys := List.replicate N 0) (by rw [made_list]; simp) (by simp; omega)
  have o1 := fun (W : World) => own_arr (W := W) (C := (madeCells #[Value.int .i64 0] N).setIfInBounds 0 (.int .i64 1)) (ys := (List.replicate N 0).set 0 1) (by rw [Array.toList_setIfInBounds, made_list, List.map_set]; simp) (by simp; omega)
  have o2 := fun (W : World) => own_arr (W := W) (C := ((madeCells #[Value.int .i64 0] N).setIfInBounds 0 (.int .i64 1)).setIfInBounds 1 (.int .i64 1)) (ys := ((List.replicate N 0).set 0 1).set 1 1) (by rw [Array.toList_setIfInBounds, Array.toList_setIfInBounds, made_list, List.map_set, List.map_set]; simp) (by simp; omega)
  have o3 := fun (W : World) => own_arr (W := W) (C := (((madeCells #[Value.int .i64 0] N).setIfInBounds 0 (.int .i64 1)).setIfInBounds 1 (.int .i64 1)).setIfInBounds 2 (.int .i64 1)) (ys := (((List.replicate N 0).set 0 1).set 1 1).set 2 1) (by rw [Array.toList_setIfInBounds, Array.toList_setIfInBounds, Array.toList_setIfInBounds, made_list, List.map_set, List.map_set, List.map_set]; simp) (by simp; omega)
  simp only [List.length_set, List.length_replicate] at o0 o1 o2 o3
  go_enter Tryz.func80, Tryz.ntmps80
  have hb0 : Below w.heap.size w ((w.alloc (.cells #[.int .i64 p, .slice a0 st.length c0] 26)).alloc (.cells #[.slice none 0 0, .slice none 0 0] 31)) := (by repeat (first | exact Below.refl _ _ | apply blw_drew | apply blw_alloc | (refine blw_set ?_ (by first | omega | (simp; done) | (simp; omega)) _) | refine below_chain ?_ (by assumption)))
  have hs := hs.below hb0
  have d0 : ((w.alloc (.cells #[.int .i64 p, .slice a0 st.length c0] 26)).alloc (.cells #[.slice none 0 0, .slice none 0 0] 31)).cell? ⟨w.heap.size, 0, none⟩ = some (.int .i64 p) := by simp [go_sem]
  have d1 : ((w.alloc (.cells #[.int .i64 p, .slice a0 st.length c0] 26)).alloc (.cells #[.slice none 0 0, .slice none 0 0] 31)).cell? ⟨w.heap.size, 1, none⟩ = some (.slice a0 st.length c0) := by simp [go_sem]
  have r0 : ((w.alloc (.cells #[.int .i64 p, .slice a0 st.length c0] 26)).alloc (.cells #[.slice none 0 0, .slice none 0 0] 31)).cell? ⟨w.heap.size + 1, 0, none⟩ = some (.slice none 0 0) := by simp [go_sem]
  have r1 : ((w.alloc (.cells #[.int .i64 p, .slice a0 st.length c0] 26)).alloc (.cells #[.slice none 0 0, .slice none 0 0] 31)).cell? ⟨w.heap.size + 1, 1, none⟩ = some (.slice none 0 0) := by simp [go_sem]
  have hr : Bx ((w.alloc (.cells #[.int .i64 p, .slice a0 st.length c0] 26)).alloc (.cells #[.slice none 0 0, .slice none 0 0] 31)) (w.heap.size + 1) (.slice none 0 0) (.slice none 0 0) := by rw [show w.heap.size + 1 = (w.alloc (.cells #[.int .i64 p, .slice a0 st.length c0] 26)).heap.size by simp]; exact heap_alloc_new _ _
  go_wp2_with fail
  refine (hsc _).mono ?_; rintro e w1 ⟨rfl, hb1⟩
  have hs := hs.below hb1; have d0 := kept hb1 d0; have d1 := kept hb1 d1; have hr := hr.below hb1
  have q0 := (o0 w1).hold (i := 0) (by omega)
  have q1 := (o1 w1).hold (i := 1) (by omega)
  have q2 := (o2 w1).hold (i := 2) (by omega)
  obtain ⟨z0, hz0⟩ : ∃ z, z = (List.replicate N (0 : Int)).getD 0 0 := ⟨_, rfl⟩
  obtain ⟨z1, hz1⟩ : ∃ z, z = ((List.replicate N (0 : Int)).set 0 1).getD 1 0 := ⟨_, rfl⟩
  obtain ⟨z2, hz2⟩ : ∃ z, z = (((List.replicate N (0 : Int)).set 0 1).set 1 1).getD 2 0 := ⟨_, rfl⟩
  rw [← hz0] at q0; rw [← hz1] at q1; rw [← hz2] at q2
  have f0 := (o0 w1).free 0
  have f1 := (o1 w1).free 1
  have f2 := (o2 w1).free 2
  have hx := (o3 w1).el
  have HL := Lib.hid (show ((((List.replicate N (0 : Int)).set 0 1).set 1 1).set 2 1).length = 3 + (n + n + n) by simp; omega)
  have HY := Lib.hid hys
  have HN := Lib.hid hN
  clear hz0 hz1 hz2 hys hN hNI o0 o1 o2 o3
  have hb2 : Below w1.heap.size w1 (w1.alloc (.cells ((((madeCells #[Value.int .i64 0] N).setIfInBounds 0 (.int .i64 1)).setIfInBounds 1 (.int .i64 1)).setIfInBounds 2 (.int .i64 1)) 2)) := (by repeat (first | exact Below.refl _ _ | apply blw_drew | apply blw_alloc | (refine blw_set ?_ (by first | omega | (simp; done) | (simp; omega)) _) | refine below_chain ?_ (by assumption)))
  have hs := hs.below hb2; have d0 := kept hb2 d0; have d1 := kept hb2 d1; have hr := hr.below hb2
  go_wp2_with fail
  refine (hcon _ _ _ _ hs hx HL.out).mono ?_; rintro e w2 ⟨v, rfl, hv, hb9⟩
  have hr := hr.below hb9
  rw [HY.out, unit_rows] at hv
  obtain ⟨d, u, us, rfl, ⟨g1, cap1, rfl, h1⟩, hu, hne⟩ := id hv
  obtain ⟨g2, cap2, rfl, _⟩ := id hu
  have hul : us.length = 3 := by obtain ⟨_, _, _, _, h, _⟩ := hu; exact h
  have HU := Lib.hid hul; clear hul
  have hu3 : (unitH n).up.length = 3 := rfl
  have hz1_ : w.heap.size + 1 + 1 ≤ w1.heap.size := by have := hb1.size; simpa using this
  have rc0 := hr.c0; have rc1 := hr.c1; have rf0 := hr.f0; have rf1 := hr.f1
  go_wp2_with fail
  refine bodyPost_ret (v := .agg #[.slice (some ⟨g1, 0, none⟩) (unitH n).dg.length cap1, .slice (some ⟨g2, 0, none⟩) us.length cap2]) (by simp [results, Tryz.results80, go_sem, rc0, rc1, HU.out, hu3]) rfl ⟨_, rfl, ?_, ?_⟩
  · exact ((hv.set_ (by first | omega | (simp; done) | (simp; omega)) _).set_ (by first | omega | (simp; done) | (simp; omega)) _).more (by simp; omega)
  · exact blw_set (blw_set (by repeat (first | exact Below.refl _ _ | apply blw_drew | apply blw_alloc | (refine blw_set ?_ (by first | omega | (simp; done) | (simp; omega)) _) | refine below_chain ?_ (by assumption))) (by first | omega | (simp; done) | (simp; omega)) _) (by first | omega | (simp; done) | (simp; omega)) _
end Go.Proofs.YtacfanjejaellaaGreat
/-
  JordanUnit: the program's and the reference's.
-/
namespace Go.Proofs.YtacfanjejaellaaGreat
open Go.RowKit

def RJordanUnit1 (p : Int) (st : List Int) : Int := chkH p st []
def RJordanUnit0 (p : Int) (st : List Int) : Her := if chkH p st [] = 0 then unitH (sz st.length) else ⟨[], []⟩
set_option maxRecDepth 100000 in
theorem iJordanUnit_c {p0 : Int} {x0 : Value} {st0 : List Int} {w : World} (hx0 : El w x0 st0) (hm0 : st0.length ≤ 1048576) :
    Calls Tryz.prog 28 #[.agg #[.int .i64 p0, x0]] w fun e w' => ∃ v0, e = .returned (.tuple #[v0, .int .i64 (RJordanUnit1 p0 st0)]) ∧ OwH w' w.heap.size v0 (RJordanUnit0 p0 st0) ∧ Below w.heap.size w w' := by
  obtain ⟨a0, c0, rfl, _⟩ := id hx0.op
  by_cases h0 : chkH p0 st0 [] = 0
  · have hd := (chkH_pos h0).1
    rw [show RJordanUnit0 p0 st0 = unitH (sz st0.length) from if_pos h0, show RJordanUnit1 p0 st0 = 0 from h0]
    have H0 := Lib.hid h0; clear h0
    go_enter Tryz.func28, Tryz.ntmps28
    have hb0 : Below w.heap.size w ((w.alloc (.cells #[.int .i64 p0, .slice a0 st0.length c0] 26)).alloc (.cells #[.slice none 0 0, .slice none 0 0] 31)) := (by repeat (first | exact Below.refl _ _ | apply blw_drew | apply blw_alloc | (refine blw_set ?_ (by first | omega | (simp; done) | (simp; omega)) _) | refine below_chain ?_ (by assumption)))
    have hx0 := hx0.below hb0
    have d0 : ((w.alloc (.cells #[.int .i64 p0, .slice a0 st0.length c0] 26)).alloc (.cells #[.slice none 0 0, .slice none 0 0] 31)).cell? ⟨w.heap.size, 0, none⟩ = some (.int .i64 p0) := by simp [go_sem]
    have d1 : ((w.alloc (.cells #[.int .i64 p0, .slice a0 st0.length c0] 26)).alloc (.cells #[.slice none 0 0, .slice none 0 0] 31)).cell? ⟨w.heap.size, 1, none⟩ = some (.slice a0 st0.length c0) := by simp [go_sem]
    have r0 : ((w.alloc (.cells #[.int .i64 p0, .slice a0 st0.length c0] 26)).alloc (.cells #[.slice none 0 0, .slice none 0 0] 31)).cell? ⟨w.heap.size + 1, 0, none⟩ = some (.slice none 0 0) := by simp [go_sem]
    have r1 : ((w.alloc (.cells #[.int .i64 p0, .slice a0 st0.length c0] 26)).alloc (.cells #[.slice none 0 0, .slice none 0 0] 31)).cell? ⟨w.heap.size + 1, 1, none⟩ = some (.slice none 0 0) := by simp [go_sem]
    have hr : Bx ((w.alloc (.cells #[.int .i64 p0, .slice a0 st0.length c0] 26)).alloc (.cells #[.slice none 0 0, .slice none 0 0] 31)) (w.heap.size + 1) (.slice none 0 0) (.slice none 0 0) := by rw [show w.heap.size + 1 = (w.alloc (.cells #[.int .i64 p0, .slice a0 st0.length c0] 26)).heap.size by simp]; exact heap_alloc_new _ _
    go_wp2_with fail
    refine (chk3_c hx0 (Re.nil _) hm0 (by simp) (by simp)).mono ?_; rintro e w1 ⟨rfl, hb1⟩
    have hx0 := hx0.below hb1; have d0 := kept hb1 d0; have d1 := kept hb1 d1; have hr := hr.below hb1
    rw [show chk3 p0 st0 [] = 0 from H0.out]
    go_wp2_with fail
    refine (junit_c hx0 hd.hl).mono ?_; rintro e w2 ⟨v, rfl, hv, hb2⟩
    have hx0 := hx0.below hb2; have d0 := kept hb2 d0; have d1 := kept hb2 d1; have hr := hr.below hb2
    obtain ⟨d, u, us, rfl, ⟨g1, cap1, rfl, h1⟩, hu, hne⟩ := id hv
    obtain ⟨g2, cap2, rfl, _⟩ := id hu
    have hul : us.length = 3 := by obtain ⟨_, _, _, _, h, _⟩ := hu; exact h
    have HU := Lib.hid hul; clear hul
    have hu3 : (unitH (sz st0.length)).up.length = 3 := rfl
    have hz1_ : w.heap.size + 1 + 1 ≤ w1.heap.size := by have := hb1.size; simpa using this
    have hz2_ : w1.heap.size ≤ w2.heap.size := hb2.size
    have rc0 := hr.c0; have rc1 := hr.c1; have rf0 := hr.f0; have rf1 := hr.f1
    go_wp2_with fail
    refine bodyPost_ret (v := .tuple #[.agg #[.slice (some ⟨g1, 0, none⟩) (unitH (sz st0.length)).dg.length cap1, .slice (some ⟨g2, 0, none⟩) us.length cap2], .int .i64 0]) (by simp [results, Tryz.results28, go_sem, rc0, rc1, HU.out, hu3]) rfl ⟨_, rfl, .inr ?_, ?_⟩
    · exact ((hv.set_ (by first | omega | (simp; done) | (simp; omega)) _).set_ (by first | omega | (simp; done) | (simp; omega)) _).more (by omega)
    · exact blw_set (blw_set (by repeat (first | exact Below.refl _ _ | apply blw_drew | apply blw_alloc | (refine blw_set ?_ (by first | omega | (simp; done) | (simp; omega)) _) | refine below_chain ?_ (by assumption))) (by first | omega | (simp; done) | (simp; omega)) _) (by first | omega | (simp; done) | (simp; omega)) _
  · rw [show RJordanUnit0 p0 st0 = ⟨[], []⟩ from if_neg h0, show RJordanUnit1 p0 st0 = chkH p0 st0 [] from rfl]
    obtain ⟨k, hk⟩ : ∃ k, k = chkH p0 st0 [] := ⟨_, rfl⟩
    rw [← hk] at h0 ⊢
    have HK := Lib.hid hk; clear hk
    have hne : (k == 0) = false := by simpa using h0
    go_enter Tryz.func28, Tryz.ntmps28
    have hb0 : Below w.heap.size w ((w.alloc (.cells #[.int .i64 p0, .slice a0 st0.length c0] 26)).alloc (.cells #[.slice none 0 0, .slice none 0 0] 31)) := (by repeat (first | exact Below.refl _ _ | apply blw_drew | apply blw_alloc | (refine blw_set ?_ (by first | omega | (simp; done) | (simp; omega)) _) | refine below_chain ?_ (by assumption)))
    have hx0 := hx0.below hb0
    have d0 : ((w.alloc (.cells #[.int .i64 p0, .slice a0 st0.length c0] 26)).alloc (.cells #[.slice none 0 0, .slice none 0 0] 31)).cell? ⟨w.heap.size, 0, none⟩ = some (.int .i64 p0) := by simp [go_sem]
    have d1 : ((w.alloc (.cells #[.int .i64 p0, .slice a0 st0.length c0] 26)).alloc (.cells #[.slice none 0 0, .slice none 0 0] 31)).cell? ⟨w.heap.size, 1, none⟩ = some (.slice a0 st0.length c0) := by simp [go_sem]
    have r0 : ((w.alloc (.cells #[.int .i64 p0, .slice a0 st0.length c0] 26)).alloc (.cells #[.slice none 0 0, .slice none 0 0] 31)).cell? ⟨w.heap.size + 1, 0, none⟩ = some (.slice none 0 0) := by simp [go_sem]
    have r1 : ((w.alloc (.cells #[.int .i64 p0, .slice a0 st0.length c0] 26)).alloc (.cells #[.slice none 0 0, .slice none 0 0] 31)).cell? ⟨w.heap.size + 1, 1, none⟩ = some (.slice none 0 0) := by simp [go_sem]
    have hr : Bx ((w.alloc (.cells #[.int .i64 p0, .slice a0 st0.length c0] 26)).alloc (.cells #[.slice none 0 0, .slice none 0 0] 31)) (w.heap.size + 1) (.slice none 0 0) (.slice none 0 0) := by rw [show w.heap.size + 1 = (w.alloc (.cells #[.int .i64 p0, .slice a0 st0.length c0] 26)).heap.size by simp]; exact heap_alloc_new _ _
    go_wp2_with fail
    refine (chk3_c hx0 (Re.nil _) hm0 (by simp) (by simp)).mono ?_; rintro e w1 ⟨rfl, hb1⟩
    have hx0 := hx0.below hb1; have d0 := kept hb1 d0; have d1 := kept hb1 d1; have hr := hr.below hb1
    rw [show chk3 p0 st0 [] = k from HK.out.symm]
    have rc0 := hr.c0; have rc1 := hr.c1; have rf0 := hr.f0; have rf1 := hr.f1
    go_wp2_with fail
    refine bodyPost_ret (v := .tuple #[.agg #[.slice none 0 0, .slice none 0 0], .int .i64 k]) (by simp [results, Tryz.results28, go_sem, rc0, rc1]) rfl ⟨_, rfl, .inl ⟨rfl, rfl⟩, ?_⟩
    exact blw_set (blw_set (by repeat (first | exact Below.refl _ _ | apply blw_drew | apply blw_alloc | (refine blw_set ?_ (by first | omega | (simp; done) | (simp; omega)) _) | refine below_chain ?_ (by assumption))) (by first | omega | (simp; done) | (simp; omega)) _) (by first | omega | (simp; done) | (simp; omega)) _
end Go.Proofs.YtacfanjejaellaaGreat
/-
  JordanPower: the program's and the reference's.
-/
namespace Go.Proofs.YtacfanjejaellaaGreat
open Go.RowKit

theorem zero_ev {p : Int} {n : Nat} (hp : 2 ≤ p) : Ev p n (List.replicate n 0) :=
  ⟨List.length_replicate, fun x hx => by rw [List.eq_of_mem_replicate hx]; omega⟩
end Go.Proofs.YtacfanjejaellaaGreat
/-
  Jordan's laws for matrices as rows of numbers: products, the characteristic equation. No program in sight.
-/
namespace Go.Proofs.YtacfanjejaellaaGreat

/-- Numbers mod p as Fin n, with a half of 1, and no divisors of 0. -/
theorem IsP.lift {p : Int} (hp : IsP p) {Q : Prop} (h : ∀ (n : Nat) [NeZero n], p = (n : Int) → 2 * toF n (invL p 2) = 1 → Fld n → Q) : Q := by
  rcases hp with rfl | rfl | rfl | rfl | rfl
  · exact h 3 rfl (by decide) fld3
  · exact h 5 rfl (by decide) fld5
  · exact h 7 rfl (by decide) fld7
  · exact h 11 rfl (by decide) fld11
  · exact h 13 rfl (by decide) fld13
theorem unitH_is {p : Int} {n : Nat} (hp : 2 ≤ p) : isH p n (unitH n) = true := isH_mk ⟨by omega, by omega⟩ ⟨by omega, by omega⟩ ⟨by omega, by omega⟩ (zero_ev hp) (zero_ev hp) (zero_ev hp)
section
variable {p : Int} {st : List Int} {X Y : Her}
end
end Go.Proofs.YtacfanjejaellaaGreat
