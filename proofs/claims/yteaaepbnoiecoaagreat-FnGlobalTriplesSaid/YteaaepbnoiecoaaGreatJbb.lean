/- Texts joined for a claim: Ring, Oct, OctB, AfA, OctH, OctI, OctJ, AuP, OctM, GtA. -/
import Derived.Test.YteaaepbnoiecoaaGreatJad
import Derived.Test.YteaaepbnoiecoaaGreatJal
import Derived.Test.YteaaepbnoiecoaaGreatJar
import Derived.Test.YteaaepbnoiecoaaGreatJak
import Derived.Test.YteaaepbnoiecoaaGreatTgE
namespace Go.Proofs.YteaaepbnoiecoaaGreat
def toF (n : Nat) [NeZero n] (a : Int) : Fin n := ⟨(a % (n:Int)).toNat, by
 have := Nat.pos_of_neZero n
 have h1 := Int.emod_nonneg a (b := (n:Int)) (by omega)
 have h2 := Int.emod_lt_of_pos a (b := (n:Int)) (by omega)
 omega⟩
theorem toF_eq (n : Nat) [NeZero n] (a b : Int) : toF n a = toF n b ↔ a % (n:Int) = b % (n:Int) := by
 have := Nat.pos_of_neZero n
 have h1 := Int.emod_nonneg a (b := (n:Int)) (by omega)
 have h2 := Int.emod_nonneg b (b := (n:Int)) (by omega)
 simp only [toF, Fin.mk.injEq]
 omega
theorem toF_add (n : Nat) [NeZero n] (a b : Int) : toF n (a + b) = toF n a + toF n b := by
 have := Nat.pos_of_neZero n
 have h1 := Int.emod_nonneg a (b := (n:Int)) (by omega)
 have h2 := Int.emod_nonneg b (b := (n:Int)) (by omega)
 apply Fin.ext
 simp only [toF, Fin.val_add]
 rw [Int.add_emod]
 have h3 : (((a % (n:Int)).toNat + (b % (n:Int)).toNat : Nat) : Int) = a % n + b % n := by omega
 rw [<- h3, <- Int.natCast_emod, Int.toNat_natCast]
theorem toF_mul (n : Nat) [NeZero n] (a b : Int) : toF n (a * b) = toF n a * toF n b := by
 have := Nat.pos_of_neZero n
 have h1 := Int.emod_nonneg a (b := (n:Int)) (by omega)
 have h2 := Int.emod_nonneg b (b := (n:Int)) (by omega)
 apply Fin.ext
 simp only [toF, Fin.val_mul]
 rw [Int.mul_emod]
 have h3 : (((a % (n:Int)).toNat * (b % (n:Int)).toNat : Nat) : Int) = (a % n) * (b % n) := by
  rw [Int.natCast_mul, Int.toNat_of_nonneg h1, Int.toNat_of_nonneg h2]
 rw [<- h3, <- Int.natCast_emod, Int.toNat_natCast]
theorem toF_neg (n : Nat) [NeZero n] (a : Int) : toF n (-a) = -toF n a := by
 have h : toF n (-a) + toF n a = toF n 0 := by rw [<- toF_add]; congr 1; omega
 have h0 : toF n 0 = 0 := by apply Fin.ext; simp [toF]
 grind
theorem toF_mod (n : Nat) [NeZero n] (a : Int) : toF n (a % (n:Int)) = toF n a := by
 rw [toF_eq]; exact Int.emod_emod_of_dvd _ (Int.dvd_refl _)
theorem toF_one (n : Nat) [NeZero n] : toF n 1 = 1 := by
 apply Fin.ext
 simp only [toF]
 rw [show (1 : Int) = ((1 : Nat) : Int) by rfl, <- Int.natCast_emod, Int.toNat_natCast]
 rfl
theorem toF_zero (n : Nat) [NeZero n] : toF n 0 = 0 := by apply Fin.ext; simp [toF]
@[ext] structure Oc (n : Nat) where
 a0 : Fin n
 a1 : Fin n
 a2 : Fin n
 a3 : Fin n
 a4 : Fin n
 a5 : Fin n
 a6 : Fin n
 a7 : Fin n
section
variable {n : Nat} [NeZero n]
def omul (g h k : Fin n) (x y : Oc n) : Oc n :=
  ⟨x.a0 * y.a0 + g * x.a1 * y.a1 + h * x.a2 * y.a2 - g * h * x.a3 * y.a3 + k * x.a4 * y.a4 - g * k * x.a5 * y.a5 - h * k * x.a6 * y.a6 + g * h * k * x.a7 * y.a7,
   x.a0 * y.a1 + x.a1 * y.a0 + h * x.a3 * y.a2 - h * x.a2 * y.a3 + k * x.a5 * y.a4 - k * x.a4 * y.a5 - h * k * x.a6 * y.a7 + h * k * x.a7 * y.a6,
   x.a0 * y.a2 + g * x.a1 * y.a3 + x.a2 * y.a0 - g * x.a3 * y.a1 + k * x.a6 * y.a4 - g * k * x.a7 * y.a5 - k * x.a4 * y.a6 + g * k * x.a5 * y.a7,
   x.a1 * y.a2 + x.a0 * y.a3 - x.a2 * y.a1 + x.a3 * y.a0 - k * x.a6 * y.a5 + k * x.a7 * y.a4 + k * x.a5 * y.a6 - k * x.a4 * y.a7,
   x.a0 * y.a4 + g * x.a1 * y.a5 + h * x.a2 * y.a6 - g * h * x.a3 * y.a7 + x.a4 * y.a0 - g * x.a5 * y.a1 - h * x.a6 * y.a2 + g * h * x.a7 * y.a3,
   x.a1 * y.a4 + x.a0 * y.a5 + h * x.a2 * y.a7 - h * x.a3 * y.a6 - x.a4 * y.a1 + x.a5 * y.a0 - h * x.a7 * y.a2 + h * x.a6 * y.a3,
   x.a2 * y.a4 + g * x.a3 * y.a5 + x.a0 * y.a6 - g * x.a1 * y.a7 - x.a4 * y.a2 - g * x.a5 * y.a3 + x.a6 * y.a0 + g * x.a7 * y.a1,
   x.a2 * y.a5 + x.a3 * y.a4 - x.a1 * y.a6 + x.a0 * y.a7 - x.a5 * y.a2 - x.a4 * y.a3 + x.a6 * y.a1 + x.a7 * y.a0⟩
def ocj (x : Oc n) : Oc n := ⟨x.a0, -x.a1, -x.a2, -x.a3, -x.a4, -x.a5, -x.a6, -x.a7⟩
def osc (c : Fin n) (x : Oc n) : Oc n := ⟨c * x.a0, c * x.a1, c * x.a2, c * x.a3, c * x.a4, c * x.a5, c * x.a6, c * x.a7⟩
def oad (x y : Oc n) : Oc n := ⟨x.a0 + y.a0, x.a1 + y.a1, x.a2 + y.a2, x.a3 + y.a3, x.a4 + y.a4, x.a5 + y.a5, x.a6 + y.a6, x.a7 + y.a7⟩
def toO (n : Nat) [NeZero n] (xs : List Int) : Oc n := ⟨toF n (xs.getD 0 0), toF n (xs.getD 1 0), toF n (xs.getD 2 0), toF n (xs.getD 3 0), toF n (xs.getD 4 0), toF n (xs.getD 5 0), toF n (xs.getD 6 0), toF n (xs.getD 7 0)⟩
theorem toO_plus {p k : Int} {xs ys : List Int} (hp : p = n) (hl : ys.length = xs.length) : toO n (plusL p xs ys k) = oad (toO n xs) (osc (toF n k) (toO n ys)) := by
 have h : ∀ i, toF n ((plusL p xs ys k).getD i 0) = toF n (xs.getD i 0) + toF n k * toF n (ys.getD i 0) := fun i => by
  unfold plusL
  by_cases hi : i < xs.length
  ·have hi2 : i < ys.length := by omega
   rw [List.getD_eq_getElem?_getD, List.getElem?_zipWith, List.getElem?_eq_getElem hi, List.getElem?_eq_getElem hi2]
   simp only [Option.getD_some, List.getD_eq_getElem?_getD, List.getElem?_eq_getElem hi, List.getElem?_eq_getElem hi2]
   rw [hp, toF_mod, toF_add, toF_mul]
  ·rw [List.getD_eq_getElem?_getD, List.getD_eq_getElem?_getD, List.getD_eq_getElem?_getD, List.getElem?_eq_none (by rw [List.length_zipWith]; omega), List.getElem?_eq_none (by omega), List.getElem?_eq_none (by omega)]
   simp only [Option.getD_none, toF_zero]
   grind
 unfold toO oad osc
 simp only [h]
theorem toO_conj {p : Int} {xs : List Int} (hp : p = n) : toO n (conjL p xs) = ocj (toO n xs) := by
 match xs with
 | [] => unfold toO ocj; simp [conjL, scaleL, toF_zero]; grind
 | x :: xs =>
  have h : ∀ i, toF n ((scaleL p xs (-1)).getD i 0) = -toF n (xs.getD i 0) := fun i => by
   unfold scaleL
   by_cases hi : i < xs.length
   ·rw [List.getD_eq_getElem?_getD, List.getElem?_map, List.getElem?_eq_getElem hi]
    simp only [Option.map_some, Option.getD_some, List.getD_eq_getElem?_getD, List.getElem?_eq_getElem hi]
    rw [hp, toF_mod, toF_mul, toF_neg, toF_one]; grind
   ·rw [List.getD_eq_getElem?_getD, List.getD_eq_getElem?_getD, List.getElem?_eq_none (by rw [List.length_map]; omega), List.getElem?_eq_none (by omega)]
    simp only [Option.getD_none, toF_zero]
    grind
  unfold toO ocj
  have e : conjL p (x :: xs) = x :: scaleL p xs (-1) := rfl
  rw [e]
  simp only [List.getD_cons_zero, List.getD_cons_succ, h]
theorem toO_mul0 {p x0 y0 : Int} (hp : p = n) (g h k : Fin n) : toO n (mulL p [] [x0] [y0]) = omul g h k (toO n [x0]) (toO n [y0]) := by
 simp only [mulL, List.reverse_cons, List.reverse_nil, List.nil_append, List.cons_append, mulR, List.length_cons, List.length_nil, plusL, scaleL, conjL, Nat.reduceAdd, Nat.reduceDiv, List.take_succ_cons, List.take_zero, List.drop_succ_cons, List.drop_zero, List.map_cons, List.map_nil, List.zipWith_cons_cons, List.zipWith_nil_left, List.zipWith_nil_right, List.getD_cons_zero, List.getD_cons_succ, List.getD_nil]
 unfold toO omul
 simp only [List.getD_cons_zero, List.getD_cons_succ, List.getD_nil, hp, toF_mod, toF_add, toF_mul, toF_neg, toF_one, toF_zero]
 apply Oc.ext <;> grind
theorem toO_mul1 {p s0 x0 x1 y0 y1 : Int} (hp : p = n) (g h k : Fin n) : toO n (mulL p [s0] [x0, x1] [y0, y1]) = omul (toF n s0) h k (toO n [x0, x1]) (toO n [y0, y1]) := by
 simp only [mulL, List.reverse_cons, List.reverse_nil, List.nil_append, List.cons_append, mulR, List.length_cons, List.length_nil, plusL, scaleL, conjL, Nat.reduceAdd, Nat.reduceDiv, List.take_succ_cons, List.take_zero, List.drop_succ_cons, List.drop_zero, List.map_cons, List.map_nil, List.zipWith_cons_cons, List.zipWith_nil_left, List.zipWith_nil_right, List.getD_cons_zero, List.getD_cons_succ, List.getD_nil]
 unfold toO omul
 simp only [List.getD_cons_zero, List.getD_cons_succ, List.getD_nil, hp, toF_mod, toF_add, toF_mul, toF_neg, toF_one, toF_zero]
 apply Oc.ext <;> grind
theorem toO_mul2 {p s0 s1 x0 x1 x2 x3 y0 y1 y2 y3 : Int} (hp : p = n) (g h k : Fin n) : toO n (mulL p [s0, s1] [x0, x1, x2, x3] [y0, y1, y2, y3]) = omul (toF n s0) (toF n s1) k (toO n [x0, x1, x2, x3]) (toO n [y0, y1, y2, y3]) := by
 simp only [mulL, List.reverse_cons, List.reverse_nil, List.nil_append, List.cons_append, mulR, List.length_cons, List.length_nil, plusL, scaleL, conjL, Nat.reduceAdd, Nat.reduceDiv, List.take_succ_cons, List.take_zero, List.drop_succ_cons, List.drop_zero, List.map_cons, List.map_nil, List.zipWith_cons_cons, List.zipWith_nil_left, List.zipWith_nil_right, List.getD_cons_zero, List.getD_cons_succ, List.getD_nil]
 unfold toO omul
 simp only [List.getD_cons_zero, List.getD_cons_succ, List.getD_nil, hp, toF_mod, toF_add, toF_mul, toF_neg, toF_one, toF_zero]
 apply Oc.ext <;> grind
theorem toO_mul3 {p s0 s1 s2 x0 x1 x2 x3 x4 x5 x6 x7 y0 y1 y2 y3 y4 y5 y6 y7 : Int} (hp : p = n) (g h k : Fin n) : toO n (mulL p [s0, s1, s2] [x0, x1, x2, x3, x4, x5, x6, x7] [y0, y1, y2, y3, y4, y5, y6, y7]) = omul (toF n s0) (toF n s1) (toF n s2) (toO n [x0, x1, x2, x3, x4, x5, x6, x7]) (toO n [y0, y1, y2, y3, y4, y5, y6, y7]) := by
 simp only [mulL, List.reverse_cons, List.reverse_nil, List.nil_append, List.cons_append, mulR, List.length_cons, List.length_nil, plusL, scaleL, conjL, Nat.reduceAdd, Nat.reduceDiv, List.take_succ_cons, List.take_zero, List.drop_succ_cons, List.drop_zero, List.map_cons, List.map_nil, List.zipWith_cons_cons, List.zipWith_nil_left, List.zipWith_nil_right, List.getD_cons_zero, List.getD_cons_succ, List.getD_nil]
 unfold toO omul
 simp only [List.getD_cons_zero, List.getD_cons_succ, List.getD_nil, hp, toF_mod, toF_add, toF_mul, toF_neg, toF_one, toF_zero]
 apply Oc.ext <;> grind
end
section
variable {n : Nat} [NeZero n]
def gam (n : Nat) [NeZero n] (st : List Int) (i : Nat) : Fin n := toF n (st.getD i 0)
theorem toO_mul {p : Int} {st x y : List Int} (hp : p = n) (hst : st.length <= 3) (hx : x.length = sz st.length) (hy : y.length = sz st.length) : toO n (mulL p st x y) = omul (gam n st 0) (gam n st 1) (gam n st 2) (toO n x) (toO n y) := by
 match st, hst with
 | [], _ => match x, y, hx, hy with | [a], [b], _, _ => exact toO_mul0 hp _ _ _
 | [s0], _ => match x, y, hx, hy with | [a0, a1], [b0, b1], _, _ => exact (toO_mul1 hp 0 (gam n [s0] 1) (gam n [s0] 2))
 | [s0, s1], _ => match x, y, hx, hy with | [a0, a1, a2, a3], [b0, b1, b2, b3], _, _ => exact (toO_mul2 hp 0 0 (gam n [s0, s1] 2))
 | [s0, s1, s2], _ => match x, y, hx, hy with | [a0, a1, a2, a3, a4, a5, a6, a7], [b0, b1, b2, b3, b4, b5, b6, b7], _, _ => exact (toO_mul3 hp 0 0 0)
theorem toO_inj {p : Int} {m : Nat} {x y : List Int} (hp : p = n) (hm : m <= 8) (hx : Ev p m x) (hy : Ev p m y) (h : toO n x = toO n y) : x = y := by
 have key : ∀ i, toF n (x.getD i 0) = toF n (y.getD i 0) -> i < m -> x[i]? = y[i]? := fun i hi hlt => by
  have h1 : i < x.length := by rw [hx.1]; exact hlt
  have h2 : i < y.length := by rw [hy.1]; exact hlt
  rw [toF_eq, List.getD_eq_getElem?_getD, List.getD_eq_getElem?_getD, List.getElem?_eq_getElem h1, List.getElem?_eq_getElem h2] at hi
  simp only [Option.getD_some] at hi
  have b1 := hx.2 _ (List.getElem_mem h1)
  have b2 := hy.2 _ (List.getElem_mem h2)
  rw [List.getElem?_eq_getElem h1, List.getElem?_eq_getElem h2]
  rw [Int.emod_eq_of_lt b1.1 (by omega), Int.emod_eq_of_lt b2.1 (by omega)] at hi
  rw [hi]
 unfold toO at h
 simp only [Oc.mk.injEq] at h
 obtain ⟨h0, h1, h2, h3, h4, h5, h6, h7⟩ := h
 refine List.ext_getElem? fun i => ?_
 by_cases hi : i < m
 ·rcases (show i = 0 \/ i = 1 \/ i = 2 \/ i = 3 \/ i = 4 \/ i = 5 \/ i = 6 \/ i = 7 by omega) with rfl | rfl | rfl | rfl | rfl | rfl | rfl | rfl
  ·exact key 0 h0 hi
  ·exact key 1 h1 hi
  ·exact key 2 h2 hi
  ·exact key 3 h3 hi
  ·exact key 4 h4 hi
  ·exact key 5 h5 hi
  ·exact key 6 h6 hi
  ·exact key 7 h7 hi
 ·rw [List.getElem?_eq_none (by rw [hx.1]; omega), List.getElem?_eq_none (by rw [hy.1]; omega)]
end
theorem chk3_posA {p : Int} {st : List Int} {xss : List (List Int)} (h : chk3 p st xss = 0) : Dok p st /\ ∀ xs ∈ xss, Ev p (sz st.length) xs := by
 unfold chk3 at h
 split at h
 ·rename_i h1
  split at h
  ·cases h
  ·rename_i h2
   split at h
   ·rename_i h3
    rw [List.all_eq_true] at h3
    exact ⟨Dok.of h1 h2, fun xs hx => isE_iff.1 (h3 xs hx)⟩
   ·cases h
 ·cases h
section
variable {p : Int} {st : List Int}
theorem trL_mat {L : List (List Int)} {n : Nat} (hp : 1 <= p) (hl : L.length = n) (h : ∀ c ∈ L, Ev p n c) : matB p n (trL L n) = true := by
 have hM : matB p n L = true := matB_iff.2 ⟨hl, h⟩
 refine matB_iff.2 ⟨trL_len, fun r hr => ?_⟩
 obtain ⟨i, _, rfl⟩ := List.mem_map.1 hr
 exact colL_ev hp hM i
theorem IsP.nat (hp : IsP p) {Q : Prop} (h : ∀ (n : Nat) [NeZero n], p = (n : Int) -> Q) : Q := by
 rcases hp with rfl | rfl | rfl | rfl | rfl
 ·exact h 3 rfl
 ·exact h 5 rfl
 ·exact h 7 rfl
 ·exact h 11 rfl
 ·exact h 13 rfl
theorem toO_unit {n m i : Nat} [NeZero n] : toO n (oneL m i) = ⟨if 0 = i /\ i < m then 1 else 0, if 1 = i /\ i < m then 1 else 0, if 2 = i /\ i < m then 1 else 0, if 3 = i /\ i < m then 1 else 0, if 4 = i /\ i < m then 1 else 0, if 5 = i /\ i < m then 1 else 0, if 6 = i /\ i < m then 1 else 0, if 7 = i /\ i < m then 1 else 0⟩ := by
 unfold toO
 simp only [one_at, apply_ite (toF n), toF_one, toF_zero]
theorem one_mul (hd : Dok p st) {x : List Int} (hx : Ev p (sz st.length) x) : mulL p st (oneL (sz st.length) 0) x = x := by
 have h2 : 2 <= p := by have := hd.hp.lo; omega
 have hsz := sz_le hd
 refine hd.hp.nat fun n _ hn => toO_inj (n := n) hn hsz.2 (mulL_ev (by omega) (Ev.one h2) hx) hx ?_
 rw [toO_mul hn hd.hl (Ev.one (p := p) (n := sz st.length) (i := 0) h2).1 hx.1, toO_unit]
 have h0 : 0 < sz st.length := hsz.1
 simp only [h0, and_true, if_true, if_neg (show ¬ (1 : Nat) = 0 by decide), if_neg (show ¬ (2 : Nat) = 0 by decide), if_neg (show ¬ (3 : Nat) = 0 by decide), if_neg (show ¬ (4 : Nat) = 0 by decide), if_neg (show ¬ (5 : Nat) = 0 by decide), if_neg (show ¬ (6 : Nat) = 0 by decide), if_neg (show ¬ (7 : Nat) = 0 by decide)]
 unfold omul
 apply Oc.ext <;> (simp only []; grind)
theorem scaleL_id {xs : List Int} (h : Fp p xs) : scaleL p xs 1 = xs := by
 unfold scaleL
 conv => rhs; rw [<- List.map_id xs]
 refine List.map_congr_left fun x hx => ?_
 have := h x hx
 rw [Int.mul_one]
 exact Int.emod_eq_of_lt this.1 this.2
end
@[ext] structure H3 (n : Nat) where
 a : Fin n
 b : Fin n
 c : Fin n
 u : Oc n
 v : Oc n
 t : Oc n
section
variable {n : Nat} [NeZero n]
def odt (g h k : Fin n) (x y : Oc n) : Fin n := x.a0 * y.a0 - g * x.a1 * y.a1 - h * x.a2 * y.a2 + g * h * x.a3 * y.a3 - k * x.a4 * y.a4 + g * k * x.a5 * y.a5 + h * k * x.a6 * y.a6 - g * h * k * x.a7 * y.a7
theorem omul_re (g h k : Fin n) (x y : Oc n) : (omul g h k x (ocj y)).a0 = odt g h k x y := by unfold omul ocj odt; grind
/-! ### Entries -/
theorem getD_toO {xs : List Int} : toF n (xs.getD 0 0) = (toO n xs).a0 := rfl
end
section
variable {n : Nat} [NeZero n]
end
section
variable {n : Nat} [NeZero n] (g h k : Fin n)
theorem omul_addl (x y z : Oc n) : omul g h k (oad x y) z = oad (omul g h k x z) (omul g h k y z) := by unfold omul oad; apply Oc.ext <;> grind
theorem omul_addr (x y z : Oc n) : omul g h k z (oad x y) = oad (omul g h k z x) (omul g h k z y) := by unfold omul oad; apply Oc.ext <;> grind
theorem omul_oscl (c : Fin n) (x y : Oc n) : omul g h k (osc c x) y = osc c (omul g h k x y) := by unfold omul osc; apply Oc.ext <;> grind
theorem omul_oscr (c : Fin n) (x y : Oc n) : omul g h k x (osc c y) = osc c (omul g h k x y) := by unfold omul osc; apply Oc.ext <;> grind
theorem ocj_oad (x y : Oc n) : ocj (oad x y) = oad (ocj x) (ocj y) := by unfold ocj oad; apply Oc.ext <;> grind
theorem ocj_osc (c : Fin n) (x : Oc n) : ocj (osc c x) = osc c (ocj x) := by unfold ocj osc; apply Oc.ext <;> grind
theorem ocj_ocj (x : Oc n) : ocj (ocj x) = x := by unfold ocj; apply Oc.ext <;> grind
theorem odt_addl (x y z : Oc n) : odt g h k (oad x y) z = odt g h k x z + odt g h k y z := by unfold odt oad; grind
theorem odt_addr (x y z : Oc n) : odt g h k z (oad x y) = odt g h k z x + odt g h k z y := by unfold odt oad; grind
theorem odt_oscl (c : Fin n) (x y : Oc n) : odt g h k (osc c x) y = c * odt g h k x y := by unfold odt osc; grind
theorem odt_oscr (c : Fin n) (x y : Oc n) : odt g h k x (osc c y) = c * odt g h k x y := by unfold odt osc; grind
theorem odt_comm (x y : Oc n) : odt g h k x y = odt g h k y x := by unfold odt; grind
theorem odt_cj (x y : Oc n) : odt g h k (ocj x) (ocj y) = odt g h k x y := by unfold odt ocj; grind
theorem odt_cjr (x y : Oc n) : odt g h k x (ocj y) = odt g h k (ocj x) y := by unfold odt ocj; grind
theorem odt_mulr (x y z : Oc n) : odt g h k (omul g h k x z) (omul g h k y z) = odt g h k z z * odt g h k x y := by unfold odt omul; grind
theorem odt_mull (x y z : Oc n) : odt g h k (omul g h k z x) (omul g h k z y) = odt g h k z z * odt g h k x y := by unfold odt omul; grind
theorem odt_movr (x y z : Oc n) : odt g h k (omul g h k x y) z = odt g h k x (omul g h k z (ocj y)) := by unfold odt omul ocj; grind
end
section
variable {p : Int} {st : List Int} {M : List (List Int)} {m : Nat}
theorem sp_ind {P : List Int -> Prop} (hp : 1 <= p) (h0 : P (zeroL m)) (hs : ∀ x i c, Ev p m x -> i < m -> P x -> P (plusL p x (oneL m i) c)) {x : List Int} (hx : Ev p m x) : P x := by
 have at_ : ∀ k j, j < m -> (((List.range m).map fun j => if j < k then x.getD j 0 else 0).getD j 0) = if j < k then x.getD j 0 else 0 := fun k j hj => by simp [List.getD_eq_getElem?_getD, hj]
 have ev : ∀ k, Ev p m ((List.range m).map fun j => if j < k then x.getD j 0 else 0) := fun k => ⟨by simp, fun y hy => by
  obtain ⟨j, _, rfl⟩ := List.mem_map.1 hy
  show 0 <= (if j < k then x.getD j 0 else 0) /\ (if j < k then x.getD j 0 else 0) < p
  split
  ·exact hx.at hp j
  ·omega⟩
 have key : ∀ k, k <= m -> P ((List.range m).map fun j => if j < k then x.getD j 0 else 0) := fun k => by
  induction k with
  | zero =>
   intro _
   have e : ((List.range m).map fun j => if j < 0 then x.getD j 0 else 0) = zeroL m := by
    refine ext_at (by simp [zero_len]) fun j hj => ?_
    rw [at_ 0 j (by simpa using hj), zero_at, if_neg (by omega)]
   rw [e]; exact h0
  | succ k ih =>
   intro hk
   have e : ((List.range m).map fun j => if j < k + 1 then x.getD j 0 else 0) = plusL p ((List.range m).map fun j => if j < k then x.getD j 0 else 0) (oneL m k) (x.getD k 0) := by
    refine ext_at (by rw [plusL_len (by simp [oneL_len])]; simp) fun j hj0 => ?_
    have hj : j < m := by simpa using hj0
    rw [at_ (k + 1) j hj, plus_at (by simp [oneL_len]), at_ k j hj, one_at]
    by_cases h1 : j = k
    ·subst h1
     rw [if_pos (by omega), if_neg (by omega), if_pos ⟨rfl, hj⟩, Int.zero_add, Int.mul_one, hx.md hp]
    ·rw [if_neg (show ¬ (j = k /\ k < m) from fun h => h1 h.1), Int.mul_zero, Int.add_zero]
     by_cases h2 : j < k
     ·rw [if_pos (by omega), if_pos h2, hx.md hp]
     ·rw [if_neg (by omega), if_neg h2]; simp
   rw [e]
   exact hs _ _ _ (ev k) (by omega) (ih (by omega))
 have e : ((List.range m).map fun j => if j < m then x.getD j 0 else 0) = x := by
  refine ext_at (by simp [hx.1]) fun j hj => ?_
  have hj : j < m := by simpa using hj
  rw [at_ m j hj, if_pos hj]
 rw [<- e]
 exact key m (Nat.le_refl _)
theorem dotS_comm : ∀ {x y : List Int}, dotS x y = dotS y x
 | [], [] => rfl
 | [], _ :: _ => rfl
 | _ :: _, [] => rfl
 | a :: x, b :: y => by
  show a * b + dotS x y = b * a + dotS y x
  rw [dotS_comm (x := x), Int.mul_comm]
theorem dotS_plusF {n : Nat} [NeZero n] {c : Int} (hp : p = n) : ∀ {r x y : List Int}, y.length = x.length -> toF n (dotS r (plusL p x y c)) = toF n (dotS r x) + toF n c * toF n (dotS r y)
 | [], x, y, _ => by
  show toF n 0 = toF n 0 + toF n c * toF n 0
  rw [toF_zero]; grind
 | a :: r, [], y, h => by
  obtain rfl : y = [] := List.length_eq_zero_iff.1 (by simpa using h)
  show toF n 0 = toF n 0 + toF n c * toF n 0
  rw [toF_zero]; grind
 | a :: r, x :: xs, [], h => by simp at h
 | a :: r, x :: xs, y :: ys, h => by
  have ih := dotS_plusF (c := c) hp (r := r) (x := xs) (y := ys) (by simpa using h)
  show toF n (a * ((x + c * y) % p) + dotS r (plusL p xs ys c)) = toF n (a * x + dotS r xs) + toF n c * toF n (a * y + dotS r ys)
  subst hp
  simp only [toF_add, toF_mul, toF_mod, ih]
  grind
theorem applyL_ev (hp : 1 <= p) (hM : matB p m M = true) (v : List Int) : Ev p m (applyL p M v) := by
 obtain ⟨h1, _⟩ := matB_iff.1 hM
 refine ⟨by unfold applyL; rw [List.length_map]; exact h1, fun x hx => ?_⟩
 obtain ⟨r, _, rfl⟩ := List.mem_map.1 hx
 exact ⟨Int.emod_nonneg _ (by omega), Int.emod_lt_of_pos _ (by omega)⟩
theorem apply_plus {x y : List Int} {c : Int} (hp : IsP p) (hl : y.length = x.length) : applyL p M (plusL p x y c) = plusL p (applyL p M x) (applyL p M y) c := by
 unfold applyL plusL
 rw [List.zipWith_map_left, List.zipWith_map_right, List.zipWith_self]
 refine List.map_congr_left fun r _ => ?_
 refine hp.nat fun n _ hn => ?_
 subst hn
 show dotS r (plusL _ x y c) % _ = (dotS r x % _ + c * (dotS r y % _)) % _
 rw [<- toF_eq, dotS_plusF rfl hl]
 simp only [toF_add, toF_mul, toF_mod]
theorem apply_unit (hp : 1 <= p) (hM : matB p m M = true) {i : Nat} (hi : i < m) : applyL p M (oneL m i) = colL M i := by
 rw [apply_sup one_sup, one_at, if_pos ⟨rfl, hi⟩]
 exact scaleL_id (colL_ev hp hM i).2
theorem mul_plusl (hd : Dok p st) {x y z : List Int} {c : Int} (hx : Ev p (sz st.length) x) (hy : Ev p (sz st.length) y) (hz : Ev p (sz st.length) z) :
  mulL p st (plusL p x y c) z = plusL p (mulL p st x z) (mulL p st y z) c := by
 have h2 := hd.hp.lo
 have e1 := mulL_ev (p := p) (by omega) hx hz
 have e2 := mulL_ev (p := p) (by omega) hy hz
 have e3 := hx.plus (k := c) (show 1 <= p by omega) hy
 refine hd.hp.nat fun n _ hn => toO_inj (n := n) hn (sz_le hd).2 (mulL_ev (by omega) e3 hz) (e1.plus (by omega) e2) ?_
 rw [toO_mul hn hd.hl e3.1 hz.1, toO_plus hn (hy.1.trans hx.1.symm), toO_plus hn (e2.1.trans e1.1.symm), toO_mul hn hd.hl hx.1 hz.1, toO_mul hn hd.hl hy.1 hz.1, omul_addl, omul_oscl]
theorem mul_plusr (hd : Dok p st) {x y z : List Int} {c : Int} (hx : Ev p (sz st.length) x) (hy : Ev p (sz st.length) y) (hz : Ev p (sz st.length) z) :
  mulL p st z (plusL p x y c) = plusL p (mulL p st z x) (mulL p st z y) c := by
 have h2 := hd.hp.lo
 have e1 := mulL_ev (p := p) (by omega) hz hx
 have e2 := mulL_ev (p := p) (by omega) hz hy
 have e3 := hx.plus (k := c) (show 1 <= p by omega) hy
 refine hd.hp.nat fun n _ hn => toO_inj (n := n) hn (sz_le hd).2 (mulL_ev (by omega) hz e3) (e1.plus (by omega) e2) ?_
 rw [toO_mul hn hd.hl hz.1 e3.1, toO_plus hn (hy.1.trans hx.1.symm), toO_plus hn (e2.1.trans e1.1.symm), toO_mul hn hd.hl hz.1 hx.1, toO_mul hn hd.hl hz.1 hy.1, omul_addr, omul_oscr]
end
section
variable {n : Nat} [NeZero n] (g h k : Fin n)
set_option maxHeartbeats 4000000 in
theorem mo (u v w : Oc n) : omul g h k (omul g h k u v) (omul g h k w u) = oad (osc (2 * odt g h k u (omul g h k (ocj w) (ocj v))) u) (osc (-(odt g h k u u)) (omul g h k (ocj w) (ocj v))) := by
 unfold odt omul ocj oad osc
 apply Oc.ext
 ·grind
 ·grind
 ·grind
 ·grind
 ·grind
 ·grind
 ·grind
 ·grind
end
open Go.RowKit
section
variable {p : Int} {st x y z u : List Int} {A B C M : List (List Int)} {c : Int} {d : List Int}
theorem dotD_plus {n : Nat} [NeZero n] (hp : p = n) : ∀ {d x u y : List Int}, u.length = x.length -> toF n (dotD d (plusL p x u c) y) = toF n (dotD d x y) + toF n c * toF n (dotD d u y)
 | [], _, _, _, _ => by
  show toF n (dotD [] _ _) = toF n (dotD [] _ _) + _ * toF n (dotD [] _ _)
  simp only [dotD, toF_zero]; grind
 | _ :: _, [], u, y, h => by
  obtain rfl := List.eq_nil_of_length_eq_zero (l := u) (by simpa using h)
  show toF n 0 = toF n 0 + toF n c * toF n 0
  rw [toF_zero]; grind
 | d :: ds, x :: xs, [], y, h => by simp at h
 | d :: ds, x :: xs, u :: us, [], h => by
  show toF n 0 = toF n 0 + toF n c * toF n 0
  rw [toF_zero]; grind
 | d :: ds, x :: xs, u :: us, y :: ys, h => by
  have ih := dotD_plus hp (d := ds) (x := xs) (u := us) (y := ys) (by simpa using h)
  show toF n (d * ((x + c * u) % p) * y + dotD ds (plusL p xs us c) ys) = toF n (d * x * y + dotD ds xs ys) + toF n c * toF n (d * u * y + dotD ds us ys)
  subst hp
  simp only [toF_add, toF_mul, toF_mod, ih]
  grind
theorem cycL_sup {n : Nat} [NeZero n] (hp : p = n) : toF n (cycL p st x y z) = toF n 2 * toF n ((mulL p st (mulL p st x y) z).getD 0 0) := by
 unfold cycL
 subst hp
 rw [toF_mod, toF_mul]
theorem toF_plus0 {n : Nat} [NeZero n] (hp : p = n) (hl : u.length = x.length) : toF n ((plusL p x u c).getD 0 0) = toF n (x.getD 0 0) + toF n c * toF n (u.getD 0 0) := by
 rw [plus_at hl]
 subst hp
 rw [toF_mod, toF_add, toF_mul]
theorem cyc_plus1 {n : Nat} [NeZero n] (hd : Dok p st) (hn : p = n) (hx : Ev p (sz st.length) x) (hu : Ev p (sz st.length) u) (hy : Ev p (sz st.length) y) (hz : Ev p (sz st.length) z) :
  toF n (cycL p st (plusL p x u c) y z) = toF n (cycL p st x y z) + toF n c * toF n (cycL p st u y z) := by
 have h1 := hd.hp.lo
 have e1 := mulL_ev (p := p) (st := st) (by omega) hx hy; have e2 := mulL_ev (p := p) (st := st) (by omega) hu hy
 rw [cycL_sup hn, cycL_sup hn, cycL_sup hn, mul_plusl hd hx hu hy, mul_plusl hd e1 e2 hz, toF_plus0 hn (by rw [(mulL_ev (p := p) (st := st) (by omega) e2 hz).1, (mulL_ev (p := p) (st := st) (by omega) e1 hz).1])]
 grind
theorem cyc_plus2 {n : Nat} [NeZero n] (hd : Dok p st) (hn : p = n) (hx : Ev p (sz st.length) x) (hu : Ev p (sz st.length) u) (hy : Ev p (sz st.length) y) (hz : Ev p (sz st.length) z) :
  toF n (cycL p st y (plusL p x u c) z) = toF n (cycL p st y x z) + toF n c * toF n (cycL p st y u z) := by
 have h1 := hd.hp.lo
 have e1 := mulL_ev (p := p) (st := st) (by omega) hy hx; have e2 := mulL_ev (p := p) (st := st) (by omega) hy hu
 rw [cycL_sup hn, cycL_sup hn, cycL_sup hn, mul_plusr hd hx hu hy, mul_plusl hd e1 e2 hz, toF_plus0 hn (by rw [(mulL_ev (p := p) (st := st) (by omega) e2 hz).1, (mulL_ev (p := p) (st := st) (by omega) e1 hz).1])]
 grind
theorem cyc_plus3 {n : Nat} [NeZero n] (hd : Dok p st) (hn : p = n) (hx : Ev p (sz st.length) x) (hu : Ev p (sz st.length) u) (hy : Ev p (sz st.length) y) (hz : Ev p (sz st.length) z) :
  toF n (cycL p st y z (plusL p x u c)) = toF n (cycL p st y z x) + toF n c * toF n (cycL p st y z u) := by
 have h1 := hd.hp.lo
 have e1 := mulL_ev (p := p) (st := st) (by omega) hy hz
 rw [cycL_sup hn, cycL_sup hn, cycL_sup hn, mul_plusr hd hx hu e1, toF_plus0 hn (by rw [(mulL_ev (p := p) (st := st) (by omega) e1 hu).1, (mulL_ev (p := p) (st := st) (by omega) e1 hx).1])]
 grind
theorem cyc_fp (hp : 1 <= p) : 0 <= cycL p st x y z /\ cycL p st x y z < p := ⟨Int.emod_nonneg _ (by omega), Int.emod_lt_of_pos _ (by omega)⟩
theorem lin_all {m : Nat} {f g : List Int -> Int} (hp : IsP p)
  (hf : ∀ (n : Nat) [NeZero n], p = (n : Int) -> ∀ x u c, Ev p m x -> Ev p m u -> toF n (f (plusL p x u c)) = toF n (f x) + toF n c * toF n (f u))
  (hg : ∀ (n : Nat) [NeZero n], p = (n : Int) -> ∀ x u c, Ev p m x -> Ev p m u -> toF n (g (plusL p x u c)) = toF n (g x) + toF n c * toF n (g u))
  (h : ∀ i, i < m -> f (oneL m i) % p = g (oneL m i) % p) (hx : Ev p m x) : f x % p = g x % p := by
 have h2 := hp.lo
 have key : ∀ (n : Nat) [NeZero n], p = (n : Int) -> toF n (f x) = toF n (g x) := fun n _ hn => by
  have hz : ∀ (q : List Int -> Int), (∀ x u c, Ev p m x -> Ev p m u -> toF n (q (plusL p x u c)) = toF n (q x) + toF n c * toF n (q u)) -> toF n (q (zeroL m)) = 0 := fun q hq => by
   have e := hq (zeroL m) (zeroL m) (-1) (zeroL_ev (by omega)) (zeroL_ev (by omega))
   have e0 : plusL p (zeroL m) (zeroL m) (-1) = zeroL m := by
    refine ext_at (by rw [plusL_len rfl]) fun j _ => ?_
    rw [plus_at rfl, zero_at]; simp
   rw [e0] at e
   have e1 : toF n (-1) = -1 := by subst hn; simp only [toF_neg, toF_one]
   rw [e1] at e
   grind
  refine sp_ind (P := fun x => toF n (f x) = toF n (g x)) (by omega) (by rw [hz f (hf n hn), hz g (hg n hn)]) (fun x i c hx hi ih => ?_) hx
  have ho : Ev p m (oneL m i) := ⟨oneL_len, oneL_fp (by omega)⟩
  rw [hf n hn x _ c hx ho, hg n hn x _ c hx ho, ih]
  have := h i hi
  rw [show toF n (f (oneL m i)) = toF n (g (oneL m i)) by subst hn; exact (toF_eq n _ _).2 this]
 refine hp.nat fun n _ hn => ?_
 have := key n hn
 subst hn
 exact (toF_eq n _ _).1 this
end
end Go.Proofs.YteaaepbnoiecoaaGreat
