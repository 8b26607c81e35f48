/- Texts joined for a claim: Ring, Oct, OctB, OctH. -/
import Derived.Test.YtgcelfnjijhmkaaGreatJae
import Derived.Test.YtgcelfnjijhmkaaGreatHcQ
/-
  Integers modulo n, as numbers of Fin n: sums, products, remainders. No program in sight.
-/
namespace Go.Proofs.YtgcelfnjijhmkaaGreat
def toF (n : Nat) [NeZero n] (a : Int) : Fin n := ⟨(a % (n:Int)).toNat, by
  have := Nat.pos_of_neZero n
  have h1 := Int.emod_nonneg a (b := (n:Int)) (by omega)
  have h2 := Int.emod_lt_of_pos a (b := (n:Int)) (by omega)
  omega⟩
theorem toF_eq (n : Nat) [NeZero n] (a b : Int) : toF n a = toF n b ↔ a % (n:Int) = b % (n:Int) := by
  have := Nat.pos_of_neZero n
  have h1 := Int.emod_nonneg a (b := (n:Int)) (by omega)
  have h2 := Int.emod_nonneg b (b := (n:Int)) (by omega)
  simp only [toF, Fin.mk.injEq]
  omega
theorem toF_add (n : Nat) [NeZero n] (a b : Int) : toF n (a + b) = toF n a + toF n b := by
  have := Nat.pos_of_neZero n
  have h1 := Int.emod_nonneg a (b := (n:Int)) (by omega)
  have h2 := Int.emod_nonneg b (b := (n:Int)) (by omega)
  apply Fin.ext
  simp only [toF, Fin.val_add]
  rw [Int.add_emod]
  have h3 : (((a % (n:Int)).toNat + (b % (n:Int)).toNat : Nat) : Int) = a % n + b % n := by omega
  rw [← h3, ← Int.natCast_emod, Int.toNat_natCast]
theorem toF_mul (n : Nat) [NeZero n] (a b : Int) : toF n (a * b) = toF n a * toF n b := by
  have := Nat.pos_of_neZero n
  have h1 := Int.emod_nonneg a (b := (n:Int)) (by omega)
  have h2 := Int.emod_nonneg b (b := (n:Int)) (by omega)
  apply Fin.ext
  simp only [toF, Fin.val_mul]
  rw [Int.mul_emod]
  have h3 : (((a % (n:Int)).toNat * (b % (n:Int)).toNat : Nat) : Int) = (a % n) * (b % n) := by
    rw [Int.natCast_mul, Int.toNat_of_nonneg h1, Int.toNat_of_nonneg h2]
  rw [← h3, ← Int.natCast_emod, Int.toNat_natCast]
theorem toF_neg (n : Nat) [NeZero n] (a : Int) : toF n (-a) = -toF n a := by
  have h : toF n (-a) + toF n a = toF n 0 := by rw [← toF_add]; congr 1; omega
  have h0 : toF n 0 = 0 := by apply Fin.ext; simp [toF]
  grind
theorem toF_sub (n : Nat) [NeZero n] (a b : Int) : toF n (a - b) = toF n a - toF n b := by
  rw [Int.sub_eq_add_neg, toF_add, toF_neg]; grind
theorem toF_mod (n : Nat) [NeZero n] (a : Int) : toF n (a % (n:Int)) = toF n a := by
  rw [toF_eq]; exact Int.emod_emod_of_dvd _ (Int.dvd_refl _)
theorem toF_one (n : Nat) [NeZero n] : toF n 1 = 1 := by
  apply Fin.ext
  simp only [toF]
  rw [show (1 : Int) = ((1 : Nat) : Int) by rfl, ← Int.natCast_emod, Int.toNat_natCast]
  rfl
theorem toF_zero (n : Nat) [NeZero n] : toF n 0 = 0 := by apply Fin.ext; simp [toF]
theorem toF_two (n : Nat) [NeZero n] : toF n 2 = 2 := by
  rw [show (2 : Int) = 1 + 1 by rfl, toF_add, toF_one]; grind
end Go.Proofs.YtgcelfnjijhmkaaGreat
/-
  Octonions over the numbers modulo n, and rows of numbers as octonions. No program in sight.
-/
namespace Go.Proofs.YtgcelfnjijhmkaaGreat

@[ext] structure Oc (n : Nat) where
  a0 : Fin n
  a1 : Fin n
  a2 : Fin n
  a3 : Fin n
  a4 : Fin n
  a5 : Fin n
  a6 : Fin n
  a7 : Fin n
section
variable {n : Nat} [NeZero n]
def omul (g h k : Fin n) (x y : Oc n) : Oc n :=
  ⟨x.a0 * y.a0 + g * x.a1 * y.a1 + h * x.a2 * y.a2 - g * h * x.a3 * y.a3 + k * x.a4 * y.a4 - g * k * x.a5 * y.a5 - h * k * x.a6 * y.a6 + g * h * k * x.a7 * y.a7,
   x.a0 * y.a1 + x.a1 * y.a0 + h * x.a3 * y.a2 - h * x.a2 * y.a3 + k * x.a5 * y.a4 - k * x.a4 * y.a5 - h * k * x.a6 * y.a7 + h * k * x.a7 * y.a6,
   x.a0 * y.a2 + g * x.a1 * y.a3 + x.a2 * y.a0 - g * x.a3 * y.a1 + k * x.a6 * y.a4 - g * k * x.a7 * y.a5 - k * x.a4 * y.a6 + g * k * x.a5 * y.a7,
   x.a1 * y.a2 + x.a0 * y.a3 - x.a2 * y.a1 + x.a3 * y.a0 - k * x.a6 * y.a5 + k * x.a7 * y.a4 + k * x.a5 * y.a6 - k * x.a4 * y.a7,
   x.a0 * y.a4 + g * x.a1 * y.a5 + h * x.a2 * y.a6 - g * h * x.a3 * y.a7 + x.a4 * y.a0 - g * x.a5 * y.a1 - h * x.a6 * y.a2 + g * h * x.a7 * y.a3,
   x.a1 * y.a4 + x.a0 * y.a5 + h * x.a2 * y.a7 - h * x.a3 * y.a6 - x.a4 * y.a1 + x.a5 * y.a0 - h * x.a7 * y.a2 + h * x.a6 * y.a3,
   x.a2 * y.a4 + g * x.a3 * y.a5 + x.a0 * y.a6 - g * x.a1 * y.a7 - x.a4 * y.a2 - g * x.a5 * y.a3 + x.a6 * y.a0 + g * x.a7 * y.a1,
   x.a2 * y.a5 + x.a3 * y.a4 - x.a1 * y.a6 + x.a0 * y.a7 - x.a5 * y.a2 - x.a4 * y.a3 + x.a6 * y.a1 + x.a7 * y.a0⟩
def ocj (x : Oc n) : Oc n := ⟨x.a0, -x.a1, -x.a2, -x.a3, -x.a4, -x.a5, -x.a6, -x.a7⟩
def onm (g h k : Fin n) (x : Oc n) : Fin n := x.a0 * x.a0 - g * x.a1 * x.a1 - h * x.a2 * x.a2 + g * h * x.a3 * x.a3 - k * x.a4 * x.a4 + g * k * x.a5 * x.a5 + h * k * x.a6 * x.a6 - g * h * k * x.a7 * x.a7
def osc (c : Fin n) (x : Oc n) : Oc n := ⟨c * x.a0, c * x.a1, c * x.a2, c * x.a3, c * x.a4, c * x.a5, c * x.a6, c * x.a7⟩
def oad (x y : Oc n) : Oc n := ⟨x.a0 + y.a0, x.a1 + y.a1, x.a2 + y.a2, x.a3 + y.a3, x.a4 + y.a4, x.a5 + y.a5, x.a6 + y.a6, x.a7 + y.a7⟩
def toO (n : Nat) [NeZero n] (xs : List Int) : Oc n := ⟨toF n (xs.getD 0 0), toF n (xs.getD 1 0), toF n (xs.getD 2 0), toF n (xs.getD 3 0), toF n (xs.getD 4 0), toF n (xs.getD 5 0), toF n (xs.getD 6 0), toF n (xs.getD 7 0)⟩
theorem toO_plus {p k : Int} {xs ys : List Int} (hp : p = n) (hl : ys.length = xs.length) : toO n (plusL p xs ys k) = oad (toO n xs) (osc (toF n k) (toO n ys)) := by
  have h : ∀ i, toF n ((plusL p xs ys k).getD i 0) = toF n (xs.getD i 0) + toF n k * toF n (ys.getD i 0) := fun i => by
    unfold plusL
    by_cases hi : i < xs.length
    · have hi2 : i < ys.length := by omega
      rw [List.getD_eq_getElem?_getD, List.getElem?_zipWith, List.getElem?_eq_getElem hi, List.getElem?_eq_getElem hi2]
      simp only [Option.getD_some, List.getD_eq_getElem?_getD, List.getElem?_eq_getElem hi, List.getElem?_eq_getElem hi2]
      rw [hp, toF_mod, toF_add, toF_mul]
    · rw [List.getD_eq_getElem?_getD, List.getD_eq_getElem?_getD, List.getD_eq_getElem?_getD, List.getElem?_eq_none (by rw [List.length_zipWith]; omega), List.getElem?_eq_none (by omega), List.getElem?_eq_none (by omega)]
      simp only [Option.getD_none, toF_zero]
      grind
  unfold toO oad osc
  simp only [h]
theorem toO_scale {p k : Int} {xs : List Int} (hp : p = n) : toO n (scaleL p xs k) = osc (toF n k) (toO n xs) := by
  have h : ∀ i, toF n ((scaleL p xs k).getD i 0) = toF n k * toF n (xs.getD i 0) := fun i => by
    unfold scaleL
    by_cases hi : i < xs.length
    · rw [List.getD_eq_getElem?_getD, List.getElem?_map, List.getElem?_eq_getElem hi]
      simp only [Option.map_some, Option.getD_some, List.getD_eq_getElem?_getD, List.getElem?_eq_getElem hi]
      rw [hp, toF_mod, toF_mul]; grind
    · rw [List.getD_eq_getElem?_getD, List.getD_eq_getElem?_getD, List.getElem?_eq_none (by rw [List.length_map]; omega), List.getElem?_eq_none (by omega)]
      simp only [Option.getD_none, toF_zero]
      grind
  unfold toO osc
  simp only [h]
theorem toO_conj {p : Int} {xs : List Int} (hp : p = n) : toO n (conjL p xs) = ocj (toO n xs) := by
  match xs with
  | [] => unfold toO ocj; simp [conjL, scaleL, toF_zero]; grind
  | x :: xs =>
    have h : ∀ i, toF n ((scaleL p xs (-1)).getD i 0) = -toF n (xs.getD i 0) := fun i => by
      unfold scaleL
      by_cases hi : i < xs.length
      · rw [List.getD_eq_getElem?_getD, List.getElem?_map, List.getElem?_eq_getElem hi]
        simp only [Option.map_some, Option.getD_some, List.getD_eq_getElem?_getD, List.getElem?_eq_getElem hi]
        rw [hp, toF_mod, toF_mul, toF_neg, toF_one]; grind
      · rw [List.getD_eq_getElem?_getD, List.getD_eq_getElem?_getD, List.getElem?_eq_none (by rw [List.length_map]; omega), List.getElem?_eq_none (by omega)]
        simp only [Option.getD_none, toF_zero]
        grind
    unfold toO ocj
    have e : conjL p (x :: xs) = x :: scaleL p xs (-1) := rfl
    rw [e]
    simp only [List.getD_cons_zero, List.getD_cons_succ, h]
theorem toO_mul0 {p x0 y0 : Int} (hp : p = n) (g h k : Fin n) : toO n (mulL p [] [x0] [y0]) = omul g h k (toO n [x0]) (toO n [y0]) := by
  simp only [mulL, List.reverse_cons, List.reverse_nil, List.nil_append, List.cons_append, mulR, List.length_cons, List.length_nil, plusL, scaleL, conjL, Nat.reduceAdd, Nat.reduceDiv, List.take_succ_cons, List.take_zero, List.drop_succ_cons, List.drop_zero, List.map_cons, List.map_nil, List.zipWith_cons_cons, List.zipWith_nil_left, List.zipWith_nil_right, List.getD_cons_zero, List.getD_cons_succ, List.getD_nil]
  unfold toO omul
  simp only [List.getD_cons_zero, List.getD_cons_succ, List.getD_nil, hp, toF_mod, toF_add, toF_mul, toF_neg, toF_one, toF_zero]
  apply Oc.ext <;> grind
theorem toO_mul1 {p s0 x0 x1 y0 y1 : Int} (hp : p = n) (g h k : Fin n) : toO n (mulL p [s0] [x0, x1] [y0, y1]) = omul (toF n s0) h k (toO n [x0, x1]) (toO n [y0, y1]) := by
  simp only [mulL, List.reverse_cons, List.reverse_nil, List.nil_append, List.cons_append, mulR, List.length_cons, List.length_nil, plusL, scaleL, conjL, Nat.reduceAdd, Nat.reduceDiv, List.take_succ_cons, List.take_zero, List.drop_succ_cons, List.drop_zero, List.map_cons, List.map_nil, List.zipWith_cons_cons, List.zipWith_nil_left, List.zipWith_nil_right, List.getD_cons_zero, List.getD_cons_succ, List.getD_nil]
  unfold toO omul
  simp only [List.getD_cons_zero, List.getD_cons_succ, List.getD_nil, hp, toF_mod, toF_add, toF_mul, toF_neg, toF_one, toF_zero]
  apply Oc.ext <;> grind
theorem toO_mul2 {p s0 s1 x0 x1 x2 x3 y0 y1 y2 y3 : Int} (hp : p = n) (g h k : Fin n) : toO n (mulL p [s0, s1] [x0, x1, x2, x3] [y0, y1, y2, y3]) = omul (toF n s0) (toF n s1) k (toO n [x0, x1, x2, x3]) (toO n [y0, y1, y2, y3]) := by
  simp only [mulL, List.reverse_cons, List.reverse_nil, List.nil_append, List.cons_append, mulR, List.length_cons, List.length_nil, plusL, scaleL, conjL, Nat.reduceAdd, Nat.reduceDiv, List.take_succ_cons, List.take_zero, List.drop_succ_cons, List.drop_zero, List.map_cons, List.map_nil, List.zipWith_cons_cons, List.zipWith_nil_left, List.zipWith_nil_right, List.getD_cons_zero, List.getD_cons_succ, List.getD_nil]
  unfold toO omul
  simp only [List.getD_cons_zero, List.getD_cons_succ, List.getD_nil, hp, toF_mod, toF_add, toF_mul, toF_neg, toF_one, toF_zero]
  apply Oc.ext <;> grind
theorem toO_mul3 {p s0 s1 s2 x0 x1 x2 x3 x4 x5 x6 x7 y0 y1 y2 y3 y4 y5 y6 y7 : Int} (hp : p = n) (g h k : Fin n) : toO n (mulL p [s0, s1, s2] [x0, x1, x2, x3, x4, x5, x6, x7] [y0, y1, y2, y3, y4, y5, y6, y7]) = omul (toF n s0) (toF n s1) (toF n s2) (toO n [x0, x1, x2, x3, x4, x5, x6, x7]) (toO n [y0, y1, y2, y3, y4, y5, y6, y7]) := by
  simp only [mulL, List.reverse_cons, List.reverse_nil, List.nil_append, List.cons_append, mulR, List.length_cons, List.length_nil, plusL, scaleL, conjL, Nat.reduceAdd, Nat.reduceDiv, List.take_succ_cons, List.take_zero, List.drop_succ_cons, List.drop_zero, List.map_cons, List.map_nil, List.zipWith_cons_cons, List.zipWith_nil_left, List.zipWith_nil_right, List.getD_cons_zero, List.getD_cons_succ, List.getD_nil]
  unfold toO omul
  simp only [List.getD_cons_zero, List.getD_cons_succ, List.getD_nil, hp, toF_mod, toF_add, toF_mul, toF_neg, toF_one, toF_zero]
  apply Oc.ext <;> grind
theorem onm_mul (g h k : Fin n) (x y : Oc n) : onm g h k (omul g h k x y) = onm g h k x * onm g h k y := by
  unfold onm omul
  grind
theorem ocj_mul (g h k : Fin n) (x y : Oc n) : ocj (omul g h k x y) = omul g h k (ocj y) (ocj x) := by
  unfold ocj omul
  apply Oc.ext <;> grind
end
end Go.Proofs.YtgcelfnjijhmkaaGreat
/-
  Products of rows as products of octonions, for any number of steps up to three; hermitian matrices over them.
-/
namespace Go.Proofs.YtgcelfnjijhmkaaGreat

section
variable {n : Nat} [NeZero n]
def gam (n : Nat) [NeZero n] (st : List Int) (i : Nat) : Fin n := toF n (st.getD i 0)
theorem toO_mul {p : Int} {st x y : List Int} (hp : p = n) (hst : st.length ≤ 3) (hx : x.length = sz st.length) (hy : y.length = sz st.length) : toO n (mulL p st x y) = omul (gam n st 0) (gam n st 1) (gam n st 2) (toO n x) (toO n y) := by
  match st, hst with
  | [], _ => match x, y, hx, hy with | [a], [b], _, _ => exact toO_mul0 hp _ _ _
  | [s0], _ => match x, y, hx, hy with | [a0, a1], [b0, b1], _, _ => exact (toO_mul1 hp 0 (gam n [s0] 1) (gam n [s0] 2))
  | [s0, s1], _ => match x, y, hx, hy with | [a0, a1, a2, a3], [b0, b1, b2, b3], _, _ => exact (toO_mul2 hp 0 0 (gam n [s0, s1] 2))
  | [s0, s1, s2], _ => match x, y, hx, hy with | [a0, a1, a2, a3, a4, a5, a6, a7], [b0, b1, b2, b3, b4, b5, b6, b7], _, _ => exact (toO_mul3 hp 0 0 0)
theorem toO_inj {p : Int} {m : Nat} {x y : List Int} (hp : p = n) (hm : m ≤ 8) (hx : Ev p m x) (hy : Ev p m y) (h : toO n x = toO n y) : x = y := by
  have key : ∀ i, toF n (x.getD i 0) = toF n (y.getD i 0) → i < m → x[i]? = y[i]? := fun i hi hlt => by
    have h1 : i < x.length := by rw [hx.1]; exact hlt
    have h2 : i < y.length := by rw [hy.1]; exact hlt
    rw [toF_eq, List.getD_eq_getElem?_getD, List.getD_eq_getElem?_getD, List.getElem?_eq_getElem h1, List.getElem?_eq_getElem h2] at hi
    simp only [Option.getD_some] at hi
    have b1 := hx.2 _ (List.getElem_mem h1)
    have b2 := hy.2 _ (List.getElem_mem h2)
    rw [List.getElem?_eq_getElem h1, List.getElem?_eq_getElem h2]
    rw [Int.emod_eq_of_lt b1.1 (by omega), Int.emod_eq_of_lt b2.1 (by omega)] at hi
    rw [hi]
  unfold toO at h
  simp only [Oc.mk.injEq] at h
  obtain ⟨h0, h1, h2, h3, h4, h5, h6, h7⟩ := h
  refine List.ext_getElem? fun i => ?_
  by_cases hi : i < m
  · rcases (show i = 0 ∨ i = 1 ∨ i = 2 ∨ i = 3 ∨ i = 4 ∨ i = 5 ∨ i = 6 ∨ i = 7 by omega) with rfl | rfl | rfl | rfl | rfl | rfl | rfl | rfl
    · exact key 0 h0 hi
    · exact key 1 h1 hi
    · exact key 2 h2 hi
    · exact key 3 h3 hi
    · exact key 4 h4 hi
    · exact key 5 h5 hi
    · exact key 6 h6 hi
    · exact key 7 h7 hi
  · rw [List.getElem?_eq_none (by rw [hx.1]; omega), List.getElem?_eq_none (by rw [hy.1]; omega)]
end
end Go.Proofs.YtgcelfnjijhmkaaGreat
/-
  Hermitian matrices over octonions modulo n: what the program's matrices compute, in closed form.
-/
namespace Go.Proofs.YtgcelfnjijhmkaaGreat

@[ext] structure H3 (n : Nat) where
  a : Fin n
  b : Fin n
  c : Fin n
  u : Oc n
  v : Oc n
  t : Oc n
section
variable {n : Nat} [NeZero n]
def toH (n : Nat) [NeZero n] (X : Her) : H3 n := ⟨toF n (X.d 0), toF n (X.d 1), toF n (X.d 2), toO n (X.r 0), toO n (X.r 1), toO n (X.r 2)⟩
def odt (g h k : Fin n) (x y : Oc n) : Fin n := x.a0 * y.a0 - g * x.a1 * y.a1 - h * x.a2 * y.a2 + g * h * x.a3 * y.a3 - k * x.a4 * y.a4 + g * k * x.a5 * y.a5 + h * k * x.a6 * y.a6 - g * h * k * x.a7 * y.a7
theorem onm_odt (g h k : Fin n) (x : Oc n) : onm g h k x = odt g h k x x := by have _h : NeZero n := inferInstance; unfold onm odt; grind
theorem omul_re (g h k : Fin n) (x y : Oc n) : (omul g h k x (ocj y)).a0 = odt g h k x y := by unfold omul ocj odt; grind
def JC (g h k iv : Fin n) (X Y : H3 n) : H3 n :=
  ⟨X.a * Y.a + odt g h k X.t Y.t + odt g h k X.v Y.v, X.b * Y.b + odt g h k X.u Y.u + odt g h k X.t Y.t, X.c * Y.c + odt g h k X.v Y.v + odt g h k X.u Y.u,
   osc iv (oad (ocj (oad (omul g h k X.v Y.t) (omul g h k Y.v X.t))) (oad (osc (X.b + X.c) Y.u) (osc (Y.b + Y.c) X.u))),
   osc iv (oad (ocj (oad (omul g h k X.t Y.u) (omul g h k Y.t X.u))) (oad (osc (X.c + X.a) Y.v) (osc (Y.c + Y.a) X.v))),
   osc iv (oad (ocj (oad (omul g h k X.u Y.v) (omul g h k Y.u X.v))) (oad (osc (X.a + X.b) Y.t) (osc (Y.a + Y.b) X.t)))⟩
def AC (g h k : Fin n) (X : H3 n) : H3 n :=
  ⟨X.b * X.c - onm g h k X.u, X.c * X.a - onm g h k X.v, X.a * X.b - onm g h k X.t,
   oad (ocj (omul g h k X.v X.t)) (osc (-X.a) X.u), oad (ocj (omul g h k X.t X.u)) (osc (-X.b) X.v), oad (ocj (omul g h k X.u X.v)) (osc (-X.c) X.t)⟩
def TC (X : H3 n) : Fin n := X.a + X.b + X.c
def SC (X : H3 n) (m : Fin n) (Y : H3 n) : H3 n := ⟨X.a + m * Y.a, X.b + m * Y.b, X.c + m * Y.c, oad X.u (osc m Y.u), oad X.v (osc m Y.v), oad X.t (osc m Y.t)⟩
def MC (m : Fin n) (X : H3 n) : H3 n := ⟨m * X.a, m * X.b, m * X.c, osc m X.u, osc m X.v, osc m X.t⟩
/-! ### Entries -/
def ore (c : Fin n) : Oc n := ⟨c, 0, 0, 0, 0, 0, 0, 0⟩
theorem toO_one {p c : Int} {m : Nat} (hp : p = n) (hm : 0 < m) : toO n (scaleL p (oneL m 0) c) = ore (toF n c) := by
  rw [toO_scale hp]
  have h : ∀ i, i ≠ 0 → toF n ((oneL m 0).getD i 0) = 0 := fun i hi => by
    unfold oneL
    rw [List.getD_eq_getElem?_getD, List.getElem?_set_ne (Ne.symm hi), List.getElem?_replicate]
    split <;> simp [toF_zero]
  have h0 : toF n ((oneL m 0).getD 0 0) = 1 := by
    unfold oneL
    rw [List.getD_eq_getElem?_getD, List.getElem?_set_self (by simpa using hm)]
    exact toF_one n
  unfold osc toO ore
  simp only [h0, h 1 (by decide), h 2 (by decide), h 3 (by decide), h 4 (by decide), h 5 (by decide), h 6 (by decide), h 7 (by decide)]
  apply Oc.ext <;> grind
theorem toO_zeros {m : Nat} : toO n (List.replicate m 0) = ore 0 := by
  have h : ∀ i, toF n ((List.replicate m (0 : Int)).getD i 0) = 0 := fun i => by
    rw [List.getD_eq_getElem?_getD, List.getElem?_replicate]
    split <;> simp [toF_zero]
  unfold toO ore
  simp only [h]
theorem getD_toO {xs : List Int} : toF n (xs.getD 0 0) = (toO n xs).a0 := rfl
theorem toO_eop {p : Int} {st : List Int} {X Y : Her} {i j : Nat} (hp : p = n) (hp1 : 2 ≤ p) (hst : st.length ≤ 3) (hX : isH p (sz st.length) X = true) (hY : isH p (sz st.length) Y = true) (hi : i < 3) (hj : j < 3) :
    toO n (eopH p st X Y i j) = oad (oad (omul (gam n st 0) (gam n st 1) (gam n st 2) (toO n (entryH p (sz st.length) X i 0)) (toO n (entryH p (sz st.length) Y 0 j))) (omul (gam n st 0) (gam n st 1) (gam n st 2) (toO n (entryH p (sz st.length) X i 1)) (toO n (entryH p (sz st.length) Y 1 j)))) (omul (gam n st 0) (gam n st 1) (gam n st 2) (toO n (entryH p (sz st.length) X i 2)) (toO n (entryH p (sz st.length) Y 2 j))) := by
  have ex : ∀ k, k < 3 → Ev p (sz st.length) (entryH p (sz st.length) X i k) := fun k hk => entryH_ev hp1 hX hi hk
  have ey : ∀ k, k < 3 → Ev p (sz st.length) (entryH p (sz st.length) Y k j) := fun k hk => entryH_ev hp1 hY hk hj
  have em : ∀ k, k < 3 → Ev p (sz st.length) (mulL p st (entryH p (sz st.length) X i k) (entryH p (sz st.length) Y k j)) := fun k hk => mulL_ev (by omega) (ex k hk) (ey k hk)
  have ez : Ev p (sz st.length) (List.replicate (sz st.length) 0) := Ev.zero (by omega)
  have e1 := ez.plus (k := 1) (by omega) (em 0 (by omega))
  have e2 := e1.plus (k := 1) (by omega) (em 1 (by omega))
  unfold eopH
  rw [toO_plus hp (by rw [(em 2 (by omega)).1, e2.1]), toO_plus hp (by rw [(em 1 (by omega)).1, e1.1]), toO_plus hp (by rw [(em 0 (by omega)).1, ez.1]),
    toO_mul hp hst (ex 0 (by omega)).1 (ey 0 (by omega)).1, toO_mul hp hst (ex 1 (by omega)).1 (ey 1 (by omega)).1, toO_mul hp hst (ex 2 (by omega)).1 (ey 2 (by omega)).1, toO_zeros, toF_one]
  unfold oad osc ore
  apply Oc.ext <;> grind
theorem toO_ent {p : Int} {m : Nat} {X : Her} (hp : p = n) (hm : 0 < m) :
    toO n (entryH p m X 0 0) = ore (toH n X).a ∧ toO n (entryH p m X 1 1) = ore (toH n X).b ∧ toO n (entryH p m X 2 2) = ore (toH n X).c ∧
    toO n (entryH p m X 1 2) = (toH n X).u ∧ toO n (entryH p m X 2 1) = ocj (toH n X).u ∧ toO n (entryH p m X 2 0) = (toH n X).v ∧ toO n (entryH p m X 0 2) = ocj (toH n X).v ∧
    toO n (entryH p m X 0 1) = (toH n X).t ∧ toO n (entryH p m X 1 0) = ocj (toH n X).t :=
  ⟨toO_one hp hm, toO_one hp hm, toO_one hp hm, rfl, toO_conj hp, rfl, toO_conj hp, rfl, toO_conj hp⟩
theorem toO_half {p : Int} {st : List Int} {X Y : Her} {i j : Nat} (hp : p = n) (hp1 : 2 ≤ p) (hX : isH p (sz st.length) X = true) (hY : isH p (sz st.length) Y = true) (hi : i < 3) (hj : j < 3) :
    toO n (halfH p st X Y i j) = osc (toF n (invL p 2)) (oad (toO n (eopH p st X Y i j)) (toO n (eopH p st Y X i j))) := by
  unfold halfH
  rw [toO_scale hp, toO_plus hp (by rw [(eopH_ev hp1 hX hY hi hj).1, (eopH_ev hp1 hY hX hi hj).1]), toF_one]
  congr 1
  unfold oad osc
  apply Oc.ext <;> grind
theorem toH_jordan {p : Int} {st : List Int} {X Y : Her} (hp : p = n) (hp1 : 2 ≤ p) (hst : st.length ≤ 3) (hX : isH p (sz st.length) X = true) (hY : isH p (sz st.length) Y = true) (hiv : 2 * toF n (invL p 2) = 1) :
    toH n (jordanH p st X Y) = JC (gam n st 0) (gam n st 1) (gam n st 2) (toF n (invL p 2)) (toH n X) (toH n Y) := by
  have hm : 0 < sz st.length := Nat.pow_pos (by decide)
  have H : ∀ i j, i < 3 → j < 3 → toO n (halfH p st X Y i j) = _ := fun i j hi hj => toO_half (n := n) hp hp1 hX hY hi hj
  obtain ⟨x00, x11, x22, x12, x21, x20, x02, x01, x10⟩ := toO_ent (n := n) (p := p) (m := sz st.length) (X := X) hp hm
  obtain ⟨y00, y11, y22, y12, y21, y20, y02, y01, y10⟩ := toO_ent (n := n) (p := p) (m := sz st.length) (X := Y) hp hm
  have e : ∀ i j, i < 3 → j < 3 → toO n (eopH p st X Y i j) = _ := fun i j hi hj => toO_eop (n := n) hp hp1 hst hX hY hi hj
  have f : ∀ i j, i < 3 → j < 3 → toO n (eopH p st Y X i j) = _ := fun i j hi hj => toO_eop (n := n) hp hp1 hst hY hX hi hj
  have h00 := H 0 0 (by omega) (by omega)
  have h11 := H 1 1 (by omega) (by omega)
  have h22 := H 2 2 (by omega) (by omega)
  have h12 := H 1 2 (by omega) (by omega)
  have h20 := H 2 0 (by omega) (by omega)
  have h01 := H 0 1 (by omega) (by omega)
  rw [e 0 0 (by omega) (by omega), f 0 0 (by omega) (by omega), x00, x01, x02, y00, y10, y20, y01, y02, x10, x20] at h00
  rw [e 1 1 (by omega) (by omega), f 1 1 (by omega) (by omega), x10, x11, x12, y01, y11, y21, y10, y12, x01, x21] at h11
  rw [e 2 2 (by omega) (by omega), f 2 2 (by omega) (by omega), x20, x21, x22, y02, y12, y22, y20, y21, x02, x12] at h22
  rw [e 1 2 (by omega) (by omega), f 1 2 (by omega) (by omega), x10, x11, x12, y02, y12, y22, y10, y11, x02, x22] at h12
  rw [e 2 0 (by omega) (by omega), f 2 0 (by omega) (by omega), x20, x21, x22, y00, y10, y20, y21, y22, x00, x10] at h20
  rw [e 0 1 (by omega) (by omega), f 0 1 (by omega) (by omega), x00, x01, x02, y01, y11, y21, y00, y02, x11, x21] at h01
  obtain ⟨iv, hv⟩ : ∃ z, z = toF n (invL p 2) := ⟨_, rfl⟩
  rw [← hv] at hiv h00 h11 h22 h12 h20 h01 ⊢
  have ed : toH n (jordanH p st X Y) = ⟨(toO n (halfH p st X Y 0 0)).a0, (toO n (halfH p st X Y 1 1)).a0, (toO n (halfH p st X Y 2 2)).a0, toO n (halfH p st X Y 1 2), toO n (halfH p st X Y 2 0), toO n (halfH p st X Y 0 1)⟩ := rfl
  rw [ed, h00, h11, h22, h12, h20, h01]
  clear ed h00 h11 h22 h12 h20 h01 e f H
  generalize toH n X = A
  generalize toH n Y = B
  generalize gam n st 0 = g; generalize gam n st 1 = h; generalize gam n st 2 = k
  clear x00 x11 x22 x12 x21 x20 x02 x01 x10 y00 y11 y22 y12 y21 y20 y02 y01 y10 hX hY hv
  unfold JC
  apply H3.ext
  · unfold osc oad omul ocj ore odt; grind
  · unfold osc oad omul ocj ore odt; grind
  · unfold osc oad omul ocj ore odt; grind
  · unfold osc oad omul ocj ore; apply Oc.ext <;> grind
  · unfold osc oad omul ocj ore; apply Oc.ext <;> grind
  · unfold osc oad omul ocj ore; apply Oc.ext <;> grind
end
end Go.Proofs.YtgcelfnjijhmkaaGreat
