/- Texts joined for a claim: Ring, Oct, OctB. -/
import Derived.Test.YtgkceadllcjeoaaJag
/-
  Integers modulo n, as numbers of Fin n: sums, products, remainders. No program in sight.
-/
namespace Go.Proofs.Ytgkceadllcjeoaa
def toF (n : Nat) [NeZero n] (a : Int) : Fin n := ⟨(a % (n:Int)).toNat, by
  have := Nat.pos_of_neZero n
  have h1 := Int.emod_nonneg a (b := (n:Int)) (by omega)
  have h2 := Int.emod_lt_of_pos a (b := (n:Int)) (by omega)
  omega⟩
theorem toF_eq (n : Nat) [NeZero n] (a b : Int) : toF n a = toF n b ↔ a % (n:Int) = b % (n:Int) := by
  have := Nat.pos_of_neZero n
  have h1 := Int.emod_nonneg a (b := (n:Int)) (by omega)
  have h2 := Int.emod_nonneg b (b := (n:Int)) (by omega)
  simp only [toF, Fin.mk.injEq]
  omega
theorem toF_add (n : Nat) [NeZero n] (a b : Int) : toF n (a + b) = toF n a + toF n b := by
  have := Nat.pos_of_neZero n
  have h1 := Int.emod_nonneg a (b := (n:Int)) (by omega)
  have h2 := Int.emod_nonneg b (b := (n:Int)) (by omega)
  apply Fin.ext
  simp only [toF, Fin.val_add]
  rw [Int.add_emod]
  have h3 : (((a % (n:Int)).toNat + (b % (n:Int)).toNat : Nat) : Int) = a % n + b % n := by omega
  rw [← h3, ← Int.natCast_emod, Int.toNat_natCast]
theorem toF_mul (n : Nat) [NeZero n] (a b : Int) : toF n (a * b) = toF n a * toF n b := by
  have := Nat.pos_of_neZero n
  have h1 := Int.emod_nonneg a (b := (n:Int)) (by omega)
  have h2 := Int.emod_nonneg b (b := (n:Int)) (by omega)
  apply Fin.ext
  simp only [toF, Fin.val_mul]
  rw [Int.mul_emod]
  have h3 : (((a % (n:Int)).toNat * (b % (n:Int)).toNat : Nat) : Int) = (a % n) * (b % n) := by
    rw [Int.natCast_mul, Int.toNat_of_nonneg h1, Int.toNat_of_nonneg h2]
  rw [← h3, ← Int.natCast_emod, Int.toNat_natCast]
theorem toF_neg (n : Nat) [NeZero n] (a : Int) : toF n (-a) = -toF n a := by
  have h : toF n (-a) + toF n a = toF n 0 := by rw [← toF_add]; congr 1; omega
  have h0 : toF n 0 = 0 := by apply Fin.ext; simp [toF]
  grind
theorem toF_sub (n : Nat) [NeZero n] (a b : Int) : toF n (a - b) = toF n a - toF n b := by
  rw [Int.sub_eq_add_neg, toF_add, toF_neg]; grind
theorem toF_mod (n : Nat) [NeZero n] (a : Int) : toF n (a % (n:Int)) = toF n a := by
  rw [toF_eq]; exact Int.emod_emod_of_dvd _ (Int.dvd_refl _)
theorem toF_one (n : Nat) [NeZero n] : toF n 1 = 1 := by
  apply Fin.ext
  simp only [toF]
  rw [show (1 : Int) = ((1 : Nat) : Int) by rfl, ← Int.natCast_emod, Int.toNat_natCast]
  rfl
theorem toF_zero (n : Nat) [NeZero n] : toF n 0 = 0 := by apply Fin.ext; simp [toF]
theorem toF_two (n : Nat) [NeZero n] : toF n 2 = 2 := by
  rw [show (2 : Int) = 1 + 1 by rfl, toF_add, toF_one]; grind
theorem toF_self (n : Nat) [NeZero n] : toF n (n : Int) = 0 := by
  rw [← toF_mod, Int.emod_self, toF_zero]
end Go.Proofs.Ytgkceadllcjeoaa
/-
  Octonions over the numbers modulo n, and rows of numbers as octonions. No program in sight.
-/
namespace Go.Proofs.Ytgkceadllcjeoaa

@[ext] structure Oc (n : Nat) where
  a0 : Fin n
  a1 : Fin n
  a2 : Fin n
  a3 : Fin n
  a4 : Fin n
  a5 : Fin n
  a6 : Fin n
  a7 : Fin n
section
variable {n : Nat} [NeZero n]
def omul (g h k : Fin n) (x y : Oc n) : Oc n :=
  ⟨x.a0 * y.a0 + g * x.a1 * y.a1 + h * x.a2 * y.a2 - g * h * x.a3 * y.a3 + k * x.a4 * y.a4 - g * k * x.a5 * y.a5 - h * k * x.a6 * y.a6 + g * h * k * x.a7 * y.a7,
   x.a0 * y.a1 + x.a1 * y.a0 + h * x.a3 * y.a2 - h * x.a2 * y.a3 + k * x.a5 * y.a4 - k * x.a4 * y.a5 - h * k * x.a6 * y.a7 + h * k * x.a7 * y.a6,
   x.a0 * y.a2 + g * x.a1 * y.a3 + x.a2 * y.a0 - g * x.a3 * y.a1 + k * x.a6 * y.a4 - g * k * x.a7 * y.a5 - k * x.a4 * y.a6 + g * k * x.a5 * y.a7,
   x.a1 * y.a2 + x.a0 * y.a3 - x.a2 * y.a1 + x.a3 * y.a0 - k * x.a6 * y.a5 + k * x.a7 * y.a4 + k * x.a5 * y.a6 - k * x.a4 * y.a7,
   x.a0 * y.a4 + g * x.a1 * y.a5 + h * x.a2 * y.a6 - g * h * x.a3 * y.a7 + x.a4 * y.a0 - g * x.a5 * y.a1 - h * x.a6 * y.a2 + g * h * x.a7 * y.a3,
   x.a1 * y.a4 + x.a0 * y.a5 + h * x.a2 * y.a7 - h * x.a3 * y.a6 - x.a4 * y.a1 + x.a5 * y.a0 - h * x.a7 * y.a2 + h * x.a6 * y.a3,
   x.a2 * y.a4 + g * x.a3 * y.a5 + x.a0 * y.a6 - g * x.a1 * y.a7 - x.a4 * y.a2 - g * x.a5 * y.a3 + x.a6 * y.a0 + g * x.a7 * y.a1,
   x.a2 * y.a5 + x.a3 * y.a4 - x.a1 * y.a6 + x.a0 * y.a7 - x.a5 * y.a2 - x.a4 * y.a3 + x.a6 * y.a1 + x.a7 * y.a0⟩
def ocj (x : Oc n) : Oc n := ⟨x.a0, -x.a1, -x.a2, -x.a3, -x.a4, -x.a5, -x.a6, -x.a7⟩
def onm (g h k : Fin n) (x : Oc n) : Fin n := x.a0 * x.a0 - g * x.a1 * x.a1 - h * x.a2 * x.a2 + g * h * x.a3 * x.a3 - k * x.a4 * x.a4 + g * k * x.a5 * x.a5 + h * k * x.a6 * x.a6 - g * h * k * x.a7 * x.a7
def osc (c : Fin n) (x : Oc n) : Oc n := ⟨c * x.a0, c * x.a1, c * x.a2, c * x.a3, c * x.a4, c * x.a5, c * x.a6, c * x.a7⟩
def oad (x y : Oc n) : Oc n := ⟨x.a0 + y.a0, x.a1 + y.a1, x.a2 + y.a2, x.a3 + y.a3, x.a4 + y.a4, x.a5 + y.a5, x.a6 + y.a6, x.a7 + y.a7⟩
def toO (n : Nat) [NeZero n] (xs : List Int) : Oc n := ⟨toF n (xs.getD 0 0), toF n (xs.getD 1 0), toF n (xs.getD 2 0), toF n (xs.getD 3 0), toF n (xs.getD 4 0), toF n (xs.getD 5 0), toF n (xs.getD 6 0), toF n (xs.getD 7 0)⟩
theorem toO_plus {p k : Int} {xs ys : List Int} (hp : p = n) (hl : ys.length = xs.length) : toO n (plusL p xs ys k) = oad (toO n xs) (osc (toF n k) (toO n ys)) := by
  have h : ∀ i, toF n ((plusL p xs ys k).getD i 0) = toF n (xs.getD i 0) + toF n k * toF n (ys.getD i 0) := fun i => by
    unfold plusL
    by_cases hi : i < xs.length
    · have hi2 : i < ys.length := by omega
      rw [List.getD_eq_getElem?_getD, List.getElem?_zipWith, List.getElem?_eq_getElem hi, List.getElem?_eq_getElem hi2]
      simp only [Option.getD_some, List.getD_eq_getElem?_getD, List.getElem?_eq_getElem hi, List.getElem?_eq_getElem hi2]
      rw [hp, toF_mod, toF_add, toF_mul]
    · rw [List.getD_eq_getElem?_getD, List.getD_eq_getElem?_getD, List.getD_eq_getElem?_getD, List.getElem?_eq_none (by rw [List.length_zipWith]; omega), List.getElem?_eq_none (by omega), List.getElem?_eq_none (by omega)]
      simp only [Option.getD_none, toF_zero]
      grind
  unfold toO oad osc
  simp only [h]
theorem toO_scale {p k : Int} {xs : List Int} (hp : p = n) : toO n (scaleL p xs k) = osc (toF n k) (toO n xs) := by
  have h : ∀ i, toF n ((scaleL p xs k).getD i 0) = toF n k * toF n (xs.getD i 0) := fun i => by
    unfold scaleL
    by_cases hi : i < xs.length
    · rw [List.getD_eq_getElem?_getD, List.getElem?_map, List.getElem?_eq_getElem hi]
      simp only [Option.map_some, Option.getD_some, List.getD_eq_getElem?_getD, List.getElem?_eq_getElem hi]
      rw [hp, toF_mod, toF_mul]; grind
    · rw [List.getD_eq_getElem?_getD, List.getD_eq_getElem?_getD, List.getElem?_eq_none (by rw [List.length_map]; omega), List.getElem?_eq_none (by omega)]
      simp only [Option.getD_none, toF_zero]
      grind
  unfold toO osc
  simp only [h]
theorem toO_conj {p : Int} {xs : List Int} (hp : p = n) : toO n (conjL p xs) = ocj (toO n xs) := by
  match xs with
  | [] => unfold toO ocj; simp [conjL, scaleL, toF_zero]; grind
  | x :: xs =>
    have h : ∀ i, toF n ((scaleL p xs (-1)).getD i 0) = -toF n (xs.getD i 0) := fun i => by
      unfold scaleL
      by_cases hi : i < xs.length
      · rw [List.getD_eq_getElem?_getD, List.getElem?_map, List.getElem?_eq_getElem hi]
        simp only [Option.map_some, Option.getD_some, List.getD_eq_getElem?_getD, List.getElem?_eq_getElem hi]
        rw [hp, toF_mod, toF_mul, toF_neg, toF_one]; grind
      · rw [List.getD_eq_getElem?_getD, List.getD_eq_getElem?_getD, List.getElem?_eq_none (by rw [List.length_map]; omega), List.getElem?_eq_none (by omega)]
        simp only [Option.getD_none, toF_zero]
        grind
    unfold toO ocj
    have e : conjL p (x :: xs) = x :: scaleL p xs (-1) := rfl
    rw [e]
    simp only [List.getD_cons_zero, List.getD_cons_succ, h]
theorem toO_mul0 {p x0 y0 : Int} (hp : p = n) (g h k : Fin n) : toO n (mulL p [] [x0] [y0]) = omul g h k (toO n [x0]) (toO n [y0]) := by
  simp only [mulL, List.reverse_cons, List.reverse_nil, List.nil_append, List.cons_append, mulR, List.length_cons, List.length_nil, plusL, scaleL, conjL, Nat.reduceAdd, Nat.reduceDiv, List.take_succ_cons, List.take_zero, List.drop_succ_cons, List.drop_zero, List.map_cons, List.map_nil, List.zipWith_cons_cons, List.zipWith_nil_left, List.zipWith_nil_right, List.getD_cons_zero, List.getD_cons_succ, List.getD_nil]
  unfold toO omul
  simp only [List.getD_cons_zero, List.getD_cons_succ, List.getD_nil, hp, toF_mod, toF_add, toF_mul, toF_neg, toF_one, toF_zero]
  apply Oc.ext <;> grind
theorem toO_mul1 {p s0 x0 x1 y0 y1 : Int} (hp : p = n) (g h k : Fin n) : toO n (mulL p [s0] [x0, x1] [y0, y1]) = omul (toF n s0) h k (toO n [x0, x1]) (toO n [y0, y1]) := by
  simp only [mulL, List.reverse_cons, List.reverse_nil, List.nil_append, List.cons_append, mulR, List.length_cons, List.length_nil, plusL, scaleL, conjL, Nat.reduceAdd, Nat.reduceDiv, List.take_succ_cons, List.take_zero, List.drop_succ_cons, List.drop_zero, List.map_cons, List.map_nil, List.zipWith_cons_cons, List.zipWith_nil_left, List.zipWith_nil_right, List.getD_cons_zero, List.getD_cons_succ, List.getD_nil]
  unfold toO omul
  simp only [List.getD_cons_zero, List.getD_cons_succ, List.getD_nil, hp, toF_mod, toF_add, toF_mul, toF_neg, toF_one, toF_zero]
  apply Oc.ext <;> grind
theorem toO_mul2 {p s0 s1 x0 x1 x2 x3 y0 y1 y2 y3 : Int} (hp : p = n) (g h k : Fin n) : toO n (mulL p [s0, s1] [x0, x1, x2, x3] [y0, y1, y2, y3]) = omul (toF n s0) (toF n s1) k (toO n [x0, x1, x2, x3]) (toO n [y0, y1, y2, y3]) := by
  simp only [mulL, List.reverse_cons, List.reverse_nil, List.nil_append, List.cons_append, mulR, List.length_cons, List.length_nil, plusL, scaleL, conjL, Nat.reduceAdd, Nat.reduceDiv, List.take_succ_cons, List.take_zero, List.drop_succ_cons, List.drop_zero, List.map_cons, List.map_nil, List.zipWith_cons_cons, List.zipWith_nil_left, List.zipWith_nil_right, List.getD_cons_zero, List.getD_cons_succ, List.getD_nil]
  unfold toO omul
  simp only [List.getD_cons_zero, List.getD_cons_succ, List.getD_nil, hp, toF_mod, toF_add, toF_mul, toF_neg, toF_one, toF_zero]
  apply Oc.ext <;> grind
theorem toO_mul3 {p s0 s1 s2 x0 x1 x2 x3 x4 x5 x6 x7 y0 y1 y2 y3 y4 y5 y6 y7 : Int} (hp : p = n) (g h k : Fin n) : toO n (mulL p [s0, s1, s2] [x0, x1, x2, x3, x4, x5, x6, x7] [y0, y1, y2, y3, y4, y5, y6, y7]) = omul (toF n s0) (toF n s1) (toF n s2) (toO n [x0, x1, x2, x3, x4, x5, x6, x7]) (toO n [y0, y1, y2, y3, y4, y5, y6, y7]) := by
  simp only [mulL, List.reverse_cons, List.reverse_nil, List.nil_append, List.cons_append, mulR, List.length_cons, List.length_nil, plusL, scaleL, conjL, Nat.reduceAdd, Nat.reduceDiv, List.take_succ_cons, List.take_zero, List.drop_succ_cons, List.drop_zero, List.map_cons, List.map_nil, List.zipWith_cons_cons, List.zipWith_nil_left, List.zipWith_nil_right, List.getD_cons_zero, List.getD_cons_succ, List.getD_nil]
  unfold toO omul
  simp only [List.getD_cons_zero, List.getD_cons_succ, List.getD_nil, hp, toF_mod, toF_add, toF_mul, toF_neg, toF_one, toF_zero]
  apply Oc.ext <;> grind
end
end Go.Proofs.Ytgkceadllcjeoaa
/-
  Products of rows as products of octonions, for any number of steps up to three; hermitian matrices over them.
-/
namespace Go.Proofs.Ytgkceadllcjeoaa

section
variable {n : Nat} [NeZero n]
def gam (n : Nat) [NeZero n] (st : List Int) (i : Nat) : Fin n := toF n (st.getD i 0)
theorem toO_mul {p : Int} {st x y : List Int} (hp : p = n) (hst : st.length ≤ 3) (hx : x.length = sz st.length) (hy : y.length = sz st.length) : toO n (mulL p st x y) = omul (gam n st 0) (gam n st 1) (gam n st 2) (toO n x) (toO n y) := by
  match st, hst with
  | [], _ => match x, y, hx, hy with | [a], [b], _, _ => exact toO_mul0 hp _ _ _
  | [s0], _ => match x, y, hx, hy with | [a0, a1], [b0, b1], _, _ => exact (toO_mul1 hp 0 (gam n [s0] 1) (gam n [s0] 2))
  | [s0, s1], _ => match x, y, hx, hy with | [a0, a1, a2, a3], [b0, b1, b2, b3], _, _ => exact (toO_mul2 hp 0 0 (gam n [s0, s1] 2))
  | [s0, s1, s2], _ => match x, y, hx, hy with | [a0, a1, a2, a3, a4, a5, a6, a7], [b0, b1, b2, b3, b4, b5, b6, b7], _, _ => exact (toO_mul3 hp 0 0 0)
theorem toO_inj {p : Int} {m : Nat} {x y : List Int} (hp : p = n) (hm : m ≤ 8) (hx : Ev p m x) (hy : Ev p m y) (h : toO n x = toO n y) : x = y := by
  have key : ∀ i, toF n (x.getD i 0) = toF n (y.getD i 0) → i < m → x[i]? = y[i]? := fun i hi hlt => by
    have h1 : i < x.length := by rw [hx.1]; exact hlt
    have h2 : i < y.length := by rw [hy.1]; exact hlt
    rw [toF_eq, List.getD_eq_getElem?_getD, List.getD_eq_getElem?_getD, List.getElem?_eq_getElem h1, List.getElem?_eq_getElem h2] at hi
    simp only [Option.getD_some] at hi
    have b1 := hx.2 _ (List.getElem_mem h1)
    have b2 := hy.2 _ (List.getElem_mem h2)
    rw [List.getElem?_eq_getElem h1, List.getElem?_eq_getElem h2]
    rw [Int.emod_eq_of_lt b1.1 (by omega), Int.emod_eq_of_lt b2.1 (by omega)] at hi
    rw [hi]
  unfold toO at h
  simp only [Oc.mk.injEq] at h
  obtain ⟨h0, h1, h2, h3, h4, h5, h6, h7⟩ := h
  refine List.ext_getElem? fun i => ?_
  by_cases hi : i < m
  · rcases (show i = 0 ∨ i = 1 ∨ i = 2 ∨ i = 3 ∨ i = 4 ∨ i = 5 ∨ i = 6 ∨ i = 7 by omega) with rfl | rfl | rfl | rfl | rfl | rfl | rfl | rfl
    · exact key 0 h0 hi
    · exact key 1 h1 hi
    · exact key 2 h2 hi
    · exact key 3 h3 hi
    · exact key 4 h4 hi
    · exact key 5 h5 hi
    · exact key 6 h6 hi
    · exact key 7 h7 hi
  · rw [List.getElem?_eq_none (by rw [hx.1]; omega), List.getElem?_eq_none (by rw [hy.1]; omega)]
end
end Go.Proofs.Ytgkceadllcjeoaa
