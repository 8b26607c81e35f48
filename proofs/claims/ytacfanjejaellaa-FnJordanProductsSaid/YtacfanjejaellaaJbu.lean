/- Texts joined for a claim: OctU, HcU, HcV, HcW, HcX, HcY, HcZ, HcN. -/
import Derived.Test.YtacfanjejaellaaJbt
import Derived.Test.YtacfanjejaellaaJbm
import Derived.Test.YtacfanjejaellaaJbj
import Derived.Test.YtacfanjejaellaaTreeB
import Derived.Test.YtacfanjejaellaaJbk
/-
  Determinants and units over octonions modulo n; fields.
-/
namespace Go.Proofs.Ytacfanjejaellaa

section
variable {n : Nat} [NeZero n]
theorem omul_re2 (g h k : Fin n) (x y : Oc n) : (omul g h k x y).a0 = odt g h k x (ocj y) := by
  have e := omul_re g h k x (ocj y)
  rw [ocj_ocj] at e; exact e
theorem toF_det {p : Int} {st : List Int} {X : Her} (hp : p = n) (hp1 : 2 ≤ p) (hst : st.length ≤ 3) (hX : isH p (sz st.length) X = true) :
    toF n (detH p st X) = NC (gam n st 0) (gam n st 1) (gam n st 2) (toH n X) := by
  obtain ⟨eu, ev, et⟩ := isH_rows hX
  have em := mulL_ev (p := p) (by omega) eu ev
  have md : ∀ z : Int, toF n (z % p) = toF n z := fun z => by rw [hp]; exact toF_mod n z
  unfold detH cycL NC
  rw [md, toF_sub, toF_sub, toF_sub, toF_add, md]
  simp only [toF_mul, toF_norm hp hp1 hst eu, toF_norm hp hp1 hst ev, toF_norm hp hp1 hst et, onm_odt, toF_two]
  rw [getD_toO, toO_mul hp hst em.1 et.1, toO_mul hp hst eu.1 ev.1, omul_re2, odt_movr]
  rfl
theorem toH_unit {m : Nat} : toH n (unitH m) = one3 := by
  have z : toO n (List.replicate m 0) = ore 0 := toO_zeros
  unfold toH unitH one3
  apply H3.ext
  · exact toF_one n
  · exact toF_one n
  · exact toF_one n
  · exact z
  · exact z
  · exact z
end
theorem fld3 : Fld 3 := by unfold Fld; decide
theorem fld5 : Fld 5 := by unfold Fld; decide
theorem fld7 : Fld 7 := by unfold Fld; decide
theorem fld11 : Fld 11 := by unfold Fld; decide
theorem fld13 : Fld 13 := by unfold Fld; decide
end Go.Proofs.Ytacfanjejaellaa
/-
  First places other than 0, rows and matrices of zeros, equality of rows.
-/
namespace Go.Proofs.Ytacfanjejaellaa
open Go.RowKit

def leadN : List Int → Nat
  | [] => 0
  | x :: xs => if x = 0 then leadN xs + 1 else 0
theorem leadN_le : ∀ xs : List Int, leadN xs ≤ xs.length
  | [] => Nat.le_refl _
  | x :: xs => by
    unfold leadN
    have := leadN_le xs
    split <;> simp <;> omega
theorem drop_lead {xs : List Int} {k : Nat} (h : k < xs.length) : leadN (xs.drop k) = if xs[k] = 0 then leadN (xs.drop (k + 1)) + 1 else 0 := by
  rw [List.drop_eq_getElem_cons h]; rfl
theorem isZ_lead : ∀ xs : List Int, isZ xs = decide (leadN xs = xs.length)
  | [] => rfl
  | x :: xs => by
    have := isZ_lead xs
    unfold isZ at *
    rw [List.all_cons, this]
    show ((x == 0) && decide (leadN xs = xs.length)) = decide ((if x = 0 then leadN xs + 1 else 0) = xs.length + 1)
    by_cases h : x = 0
    · rw [if_pos h, h]; simp
    · have hb : (x == 0) = false := by simpa using h
      rw [hb, if_neg h]; simp
end Go.Proofs.Ytacfanjejaellaa
/-
  Equality of matrices, idempotents and ranks.
-/
namespace Go.Proofs.Ytacfanjejaellaa
open Go.RowKit

def sameB (X Y : Her) : Bool := decide (numsH X = numsH Y)
def idemH (p : Int) (st : List Int) (E : Her) : Bool := sameB (jordanH p st E E) E
theorem nums_lt {p : Int} {n : Nat} {X : Her} (h : isH p n X = true) (hn : n ≤ 8) : (numsH X).length ≤ 1000 := by rw [nums_len h]; omega
end Go.Proofs.Ytacfanjejaellaa
/-
  The reference's zero, rank, equality and idempotents.
-/
namespace Go.Proofs.Ytacfanjejaellaa
open Go.RowKit

theorem isZ_app (xs ys : List Int) : isZ (xs ++ ys) = (isZ xs && isZ ys) := by unfold isZ; rw [List.all_append]
theorem isZ_three (a b c : Int) (u v t : List Int) : isZ (numsH ⟨[a, b, c], [u, v, t]⟩) = ((decide (a = 0) && isZ u) && ((decide (b = 0) && isZ v) && (decide (c = 0) && isZ t))) := by
  have e : numsH ⟨[a, b, c], [u, v, t]⟩ = [a, b, c] ++ (u ++ (v ++ t)) := by unfold numsH; simp
  rw [e, isZ_app, isZ_app, isZ_app]
  have h : isZ [a, b, c] = (decide (a = 0) && (decide (b = 0) && decide (c = 0))) := by
    unfold isZ
    simp only [List.all_cons, List.all_nil, Bool.and_true]
    rfl
  rw [h]
  cases decide (a = 0) <;> cases decide (b = 0) <;> cases decide (c = 0) <;> cases isZ u <;> cases isZ v <;> cases isZ t <;> rfl
end Go.Proofs.Ytacfanjejaellaa
/-
  The reference's equality of matrices and idempotents; multiples.
-/
namespace Go.Proofs.Ytacfanjejaellaa
open Go.RowKit

theorem sameB_eq {p : Int} {n : Nat} {X Y : Her} (hX : isH p n X = true) (hY : isH p n Y = true) : sameB X Y = (decide (X.dg = Y.dg) && decide (X.up = Y.up)) := by
  unfold sameB
  have h : numsH X = numsH Y ↔ X.dg = Y.dg ∧ X.up = Y.up := by
    constructor
    · intro h
      have e : X = Y := by rw [← split_nums hX, ← split_nums hY, h]
      rw [e]; exact ⟨rfl, rfl⟩
    · rintro ⟨h1, h2⟩
      unfold numsH; rw [h1, h2]
  rw [Bool.eq_iff_iff]
  simp [h]
end Go.Proofs.Ytacfanjejaellaa
/-
  The cross of matrices and multiples: program and reference.
-/
namespace Go.Proofs.Ytacfanjejaellaa
open Go.RowKit

def crossH (p : Int) (st : List Int) (X Y : Her) : Her := sumH p (sumH p (adjH p st (sumH p X 1 Y)) (-1) (adjH p st X)) (-1) (adjH p st Y)
theorem crossH_is {p : Int} {st : List Int} {X Y : Her} (hp : 2 ≤ p) (hX : isH p (sz st.length) X = true) (hY : isH p (sz st.length) Y = true) : isH p (sz st.length) (crossH p st X Y) = true :=
  sumH_is (by omega) (sumH_is (by omega) (adjH_is hp (sumH_is (by omega) hX hY)) (adjH_is hp hX)) (adjH_is hp hY)
theorem sumH_neg {p : Int} {X Y : Her} : sumH p X (p - 1) Y = sumH p X (-1) Y := by
  have h : ∀ xs ys : List Int, plusL p xs ys (p - 1) = plusL p xs ys (-1) := fun xs ys => plusL_cong (by
    rw [show p - 1 = -1 + p * 1 by omega, Int.add_mul_emod_self_left])
  unfold sumH
  simp only [h]
theorem multH_sum {p n : Int} {m : Nat} {X : Her} (hX : isH p m X = true) : sumH p (sumH p X (-1) X) n X = multH p X n := by
  obtain ⟨a, b, c, u, v, t, rfl, _⟩ := isH_op hX
  have h0 : ∀ x : Int, ((x + -1 * x) % p + n * x) % p = x * n % p := fun x => by
    rw [show x + -1 * x = 0 by omega, Int.zero_emod, Int.zero_add, Int.mul_comm]
  have h : ∀ xs : List Int, plusL p (plusL p xs xs (-1)) xs n = scaleL p xs n := fun xs => by
    unfold plusL scaleL
    induction xs with
    | nil => rfl
    | cons x xs ih => simp only [List.zipWith_cons_cons, List.map_cons, ih, h0]
  unfold sumH multH Her.r
  simp only [h, List.getD_cons_zero, List.getD_cons_succ]
end Go.Proofs.Ytacfanjejaellaa
/-
  The reference's cross.
-/
namespace Go.Proofs.Ytacfanjejaellaa
open Go.RowKit

end Go.Proofs.Ytacfanjejaellaa
/-
  The program's unit matrix.
-/
namespace Go.Proofs.Ytacfanjejaellaa
open Go.RowKit

theorem own_arr {W : World} {C : Array Value} {ys : List Int} (h : C.toList = ys.map (Value.int .i64)) (hm : ys.length ≤ 1048576) : OwnI (W.alloc (.cells C 2)) W.heap.size W.heap.size ys.length ys.length ys := by
  have hc : C.size = ys.length := by rw [← Array.length_toList, h, List.length_map]
  exact OwnI.mk_ (Nat.le_refl _) (heap_alloc_new W _) hc (by rw [h, List.take_of_length_le (by simp)]) (Nat.le_refl _) (by simp only [maxLen]; omega)
theorem three_ones {n : Nat} : (((List.replicate (3 + (n + n + n)) (0 : Int)).set 0 1).set 1 1).set 2 1 = 1 :: 1 :: 1 :: List.replicate (n + n + n) 0 := by
  rw [Nat.add_comm 3]
  rfl
theorem unit_rows {n : Nat} : (⟨((1 : Int) :: 1 :: 1 :: List.replicate (n + n + n) 0).take 3, [((((1 : Int) :: 1 :: 1 :: List.replicate (n + n + n) 0).drop 3).drop 0).take n, ((((1 : Int) :: 1 :: 1 :: List.replicate (n + n + n) 0).drop 3).drop n).take n, ((((1 : Int) :: 1 :: 1 :: List.replicate (n + n + n) 0).drop 3).drop (n + n)).take n]⟩ : Her) = unitH n := by
  unfold unitH
  simp only [List.take_succ_cons, List.take_zero, List.drop_succ_cons, List.drop_zero, List.drop_replicate, List.take_replicate]
  rw [show min n (n + n + n - 0 - 0) = n by omega, show min n (n + n + n - 0 - n) = n by omega, show min n (n + n + n - 0 - (n + n)) = n by omega, show min 0 (n + n + n) = 0 by omega]
  rfl
set_option maxHeartbeats 1000000 in
set_option maxRecDepth 100000 in
theorem junit_c {p : Int} {s : Value} {st : List Int} {w : World} (hs : El w s st) (hl3 : st.length ≤ 3) :
    Calls Try.prog 22 #[.agg #[.int .i64 p, s]] w fun e w' => ∃ v, e = .returned v ∧ FrH w' w.heap.size v (unitH (sz st.length)) ∧ Below w.heap.size w w' := by
  obtain ⟨n, hn⟩ : ∃ n, n = sz st.length := ⟨_, rfl⟩
  have hn1 : 1 ≤ n ∧ n ≤ 8 := by rw [hn]; exact ⟨Nat.pow_pos (by decide), Nat.le_trans (Nat.pow_le_pow_right (by decide) hl3) (by decide)⟩
  obtain ⟨a0, c0, rfl, _⟩ := id hs.op
  have hsc := fun W => size_c (w := W) (p := p) (a := a0) (n := st.length) (c := c0) (by omega)
  have hcon := fun (W : World) (s x : Value) (xs : List Int) (hs : El W s st) hx hl => herm_c (w := W) (p := p) (s := s) (x := x) (xs := xs) hs hl3 hn hx hl
  rw [← hn]
  simp only [← hn] at hsc
  clear hn
  obtain ⟨N, hN⟩ : ∃ N, N = 3 + (n + n + n) := ⟨_, rfl⟩
  have hNI : (N : Int) = 3 + 3 * (n : Int) := by omega
  have hN1 : 6 ≤ N ∧ N ≤ 27 := by omega
  have hmk := fun W => run_make_row' (P := Try.prog) 24 2 (.int .i64 0) 8 Try.underlying24 infoI rfl .i64 .i64 N (by omega) (by omega) W
  have hys := three_ones (n := n)
  rw [← hN] at hys
  simp only [hNI] at hmk
  have o0 := fun (W : World) => own_arr (W := W) (C := madeCells #[Value.int .i64 0] N) (ys := List.replicate N 0) (by rw [made_list]; simp) (by simp; omega)
  have o1 := fun (W : World) => own_arr (W := W) (C := (madeCells #[Value.int .i64 0] N).setIfInBounds 0 (.int .i64 1)) (ys := (List.replicate N 0).set 0 1) (by rw [Array.toList_setIfInBounds, made_list, List.map_set]; simp) (by simp; omega)
  have o2 := fun (W : World) => own_arr (W := W) (C := ((madeCells #[Value.int .i64 0] N).setIfInBounds 0 (.int .i64 1)).setIfInBounds 1 (.int .i64 1)) (ys := ((List.replicate N 0).set 0 1).set 1 1) (by rw [Array.toList_setIfInBounds, Array.toList_setIfInBounds, made_list, List.map_set, List.map_set]; simp) (by simp; omega)
  have o3 := fun (W : World) => own_arr (W := W) (C := (((madeCells #[Value.int .i64 0] N).setIfInBounds 0 (.int .i64 1)).setIfInBounds 1 (.int .i64 1)).setIfInBounds 2 (.int .i64 1)) (ys := (((List.replicate N 0).set 0 1).set 1 1).set 2 1) (by rw [Array.toList_setIfInBounds, Array.toList_setIfInBounds, Array.toList_setIfInBounds, made_list, List.map_set, List.map_set, List.map_set]; simp) (by simp; omega)
  simp only [List.length_set, List.length_replicate] at o0 o1 o2 o3
  go_enter Try.func22, Try.ntmps22
  have hb0 : Below w.heap.size w ((w.alloc (.cells #[.int .i64 p, .slice a0 st.length c0] 26)).alloc (.cells #[.slice none 0 0, .slice none 0 0] 29)) := (by repeat (first | exact Below.refl _ _ | apply blw_drew | apply blw_alloc | (refine blw_set ?_ (by first | omega | (simp; done) | (simp; omega)) _) | refine below_chain ?_ (by assumption)))
  have hs := hs.below hb0
  have d0 : ((w.alloc (.cells #[.int .i64 p, .slice a0 st.length c0] 26)).alloc (.cells #[.slice none 0 0, .slice none 0 0] 29)).cell? ⟨w.heap.size, 0, none⟩ = some (.int .i64 p) := by simp [go_sem]
  have d1 : ((w.alloc (.cells #[.int .i64 p, .slice a0 st.length c0] 26)).alloc (.cells #[.slice none 0 0, .slice none 0 0] 29)).cell? ⟨w.heap.size, 1, none⟩ = some (.slice a0 st.length c0) := by simp [go_sem]
  have r0 : ((w.alloc (.cells #[.int .i64 p, .slice a0 st.length c0] 26)).alloc (.cells #[.slice none 0 0, .slice none 0 0] 29)).cell? ⟨w.heap.size + 1, 0, none⟩ = some (.slice none 0 0) := by simp [go_sem]
  have r1 : ((w.alloc (.cells #[.int .i64 p, .slice a0 st.length c0] 26)).alloc (.cells #[.slice none 0 0, .slice none 0 0] 29)).cell? ⟨w.heap.size + 1, 1, none⟩ = some (.slice none 0 0) := by simp [go_sem]
  have hr : Bx ((w.alloc (.cells #[.int .i64 p, .slice a0 st.length c0] 26)).alloc (.cells #[.slice none 0 0, .slice none 0 0] 29)) (w.heap.size + 1) (.slice none 0 0) (.slice none 0 0) := by rw [show w.heap.size + 1 = (w.alloc (.cells #[.int .i64 p, .slice a0 st.length c0] 26)).heap.size by simp]; exact heap_alloc_new _ _
  go_wp2_with fail
  refine (hsc _).mono ?_; rintro e w1 ⟨rfl, hb1⟩
  have hs := hs.below hb1; have d0 := kept hb1 d0; have d1 := kept hb1 d1; have hr := hr.below hb1
  have q0 := (o0 w1).hold (i := 0) (by omega)
  have q1 := (o1 w1).hold (i := 1) (by omega)
  have q2 := (o2 w1).hold (i := 2) (by omega)
  obtain ⟨z0, hz0⟩ : ∃ z, z = (List.replicate N (0 : Int)).getD 0 0 := ⟨_, rfl⟩
  obtain ⟨z1, hz1⟩ : ∃ z, z = ((List.replicate N (0 : Int)).set 0 1).getD 1 0 := ⟨_, rfl⟩
  obtain ⟨z2, hz2⟩ : ∃ z, z = (((List.replicate N (0 : Int)).set 0 1).set 1 1).getD 2 0 := ⟨_, rfl⟩
  rw [← hz0] at q0; rw [← hz1] at q1; rw [← hz2] at q2
  have f0 := (o0 w1).free 0
  have f1 := (o1 w1).free 1
  have f2 := (o2 w1).free 2
  have hx := (o3 w1).el
  have HL := Lib.hid (show ((((List.replicate N (0 : Int)).set 0 1).set 1 1).set 2 1).length = 3 + (n + n + n) by simp; omega)
  have HY := Lib.hid hys
  have HN := Lib.hid hN
  clear hz0 hz1 hz2 hys hN hNI o0 o1 o2 o3
  have hb2 : Below w1.heap.size w1 (w1.alloc (.cells ((((madeCells #[Value.int .i64 0] N).setIfInBounds 0 (.int .i64 1)).setIfInBounds 1 (.int .i64 1)).setIfInBounds 2 (.int .i64 1)) 2)) := (by repeat (first | exact Below.refl _ _ | apply blw_drew | apply blw_alloc | (refine blw_set ?_ (by first | omega | (simp; done) | (simp; omega)) _) | refine below_chain ?_ (by assumption)))
  have hs := hs.below hb2; have d0 := kept hb2 d0; have d1 := kept hb2 d1; have hr := hr.below hb2
  go_wp2_with fail
  refine (hcon _ _ _ _ hs hx HL.out).mono ?_; rintro e w2 ⟨v, rfl, hv, hb9⟩
  have hr := hr.below hb9
  rw [HY.out, unit_rows] at hv
  obtain ⟨d, u, us, rfl, ⟨g1, cap1, rfl, h1⟩, hu, hne⟩ := id hv
  obtain ⟨g2, cap2, rfl, _⟩ := id hu
  have hul : us.length = 3 := by obtain ⟨_, _, _, _, h, _⟩ := hu; exact h
  have HU := Lib.hid hul; clear hul
  have hu3 : (unitH n).up.length = 3 := rfl
  have hz1_ : w.heap.size + 1 + 1 ≤ w1.heap.size := by have := hb1.size; simpa using this
  have rc0 := hr.c0; have rc1 := hr.c1; have rf0 := hr.f0; have rf1 := hr.f1
  go_wp2_with fail
  refine bodyPost_ret (v := .agg #[.slice (some ⟨g1, 0, none⟩) (unitH n).dg.length cap1, .slice (some ⟨g2, 0, none⟩) us.length cap2]) (by simp [results, Try.results22, go_sem, rc0, rc1, HU.out, hu3]) rfl ⟨_, rfl, ?_, ?_⟩
  · exact ((hv.set_ (by first | omega | (simp; done) | (simp; omega)) _).set_ (by first | omega | (simp; done) | (simp; omega)) _).more (by simp; omega)
  · exact blw_set (blw_set (by repeat (first | exact Below.refl _ _ | apply blw_drew | apply blw_alloc | (refine blw_set ?_ (by first | omega | (simp; done) | (simp; omega)) _) | refine below_chain ?_ (by assumption))) (by first | omega | (simp; done) | (simp; omega)) _) (by first | omega | (simp; done) | (simp; omega)) _
end Go.Proofs.Ytacfanjejaellaa
