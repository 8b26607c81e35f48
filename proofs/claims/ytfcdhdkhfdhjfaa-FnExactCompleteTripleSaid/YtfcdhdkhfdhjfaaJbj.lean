/- Texts joined for a claim: Ring, Oct, OctB, OctH, OctI, DotZ. -/
import Derived.Test.YtfcdhdkhfdhjfaaJag
import Derived.Test.YtfcdhdkhfdhjfaaJap
import Derived.Test.YtfcdhdkhfdhjfaaJbi
import Derived.Test.YtfcdhdkhfdhjfaaJas
/-
  Integers modulo n, as numbers of Fin n: sums, products, remainders. No program in sight.
-/
namespace Go.Proofs.Ytfcdhdkhfdhjfaa
def toF (n : Nat) [NeZero n] (a : Int) : Fin n := ⟨(a % (n:Int)).toNat, by
  have := Nat.pos_of_neZero n
  have h1 := Int.emod_nonneg a (b := (n:Int)) (by omega)
  have h2 := Int.emod_lt_of_pos a (b := (n:Int)) (by omega)
  omega⟩
theorem toF_eq (n : Nat) [NeZero n] (a b : Int) : toF n a = toF n b ↔ a % (n:Int) = b % (n:Int) := by
  have := Nat.pos_of_neZero n
  have h1 := Int.emod_nonneg a (b := (n:Int)) (by omega)
  have h2 := Int.emod_nonneg b (b := (n:Int)) (by omega)
  simp only [toF, Fin.mk.injEq]
  omega
theorem toF_add (n : Nat) [NeZero n] (a b : Int) : toF n (a + b) = toF n a + toF n b := by
  have := Nat.pos_of_neZero n
  have h1 := Int.emod_nonneg a (b := (n:Int)) (by omega)
  have h2 := Int.emod_nonneg b (b := (n:Int)) (by omega)
  apply Fin.ext
  simp only [toF, Fin.val_add]
  rw [Int.add_emod]
  have h3 : (((a % (n:Int)).toNat + (b % (n:Int)).toNat : Nat) : Int) = a % n + b % n := by omega
  rw [← h3, ← Int.natCast_emod, Int.toNat_natCast]
theorem toF_mul (n : Nat) [NeZero n] (a b : Int) : toF n (a * b) = toF n a * toF n b := by
  have := Nat.pos_of_neZero n
  have h1 := Int.emod_nonneg a (b := (n:Int)) (by omega)
  have h2 := Int.emod_nonneg b (b := (n:Int)) (by omega)
  apply Fin.ext
  simp only [toF, Fin.val_mul]
  rw [Int.mul_emod]
  have h3 : (((a % (n:Int)).toNat * (b % (n:Int)).toNat : Nat) : Int) = (a % n) * (b % n) := by
    rw [Int.natCast_mul, Int.toNat_of_nonneg h1, Int.toNat_of_nonneg h2]
  rw [← h3, ← Int.natCast_emod, Int.toNat_natCast]
theorem toF_neg (n : Nat) [NeZero n] (a : Int) : toF n (-a) = -toF n a := by
  have h : toF n (-a) + toF n a = toF n 0 := by rw [← toF_add]; congr 1; omega
  have h0 : toF n 0 = 0 := by apply Fin.ext; simp [toF]
  grind
theorem toF_mod (n : Nat) [NeZero n] (a : Int) : toF n (a % (n:Int)) = toF n a := by
  rw [toF_eq]; exact Int.emod_emod_of_dvd _ (Int.dvd_refl _)
theorem toF_one (n : Nat) [NeZero n] : toF n 1 = 1 := by
  apply Fin.ext
  simp only [toF]
  rw [show (1 : Int) = ((1 : Nat) : Int) by rfl, ← Int.natCast_emod, Int.toNat_natCast]
  rfl
theorem toF_zero (n : Nat) [NeZero n] : toF n 0 = 0 := by apply Fin.ext; simp [toF]
theorem toF_two (n : Nat) [NeZero n] : toF n 2 = 2 := by
  rw [show (2 : Int) = 1 + 1 by rfl, toF_add, toF_one]; grind
theorem toF_self (n : Nat) [NeZero n] : toF n (n : Int) = 0 := by
  rw [← toF_mod, Int.emod_self, toF_zero]
end Go.Proofs.Ytfcdhdkhfdhjfaa
/-
  Octonions over the numbers modulo n, and rows of numbers as octonions. No program in sight.
-/
namespace Go.Proofs.Ytfcdhdkhfdhjfaa

@[ext] structure Oc (n : Nat) where
  a0 : Fin n
  a1 : Fin n
  a2 : Fin n
  a3 : Fin n
  a4 : Fin n
  a5 : Fin n
  a6 : Fin n
  a7 : Fin n
section
variable {n : Nat} [NeZero n]
def omul (g h k : Fin n) (x y : Oc n) : Oc n :=
  ⟨x.a0 * y.a0 + g * x.a1 * y.a1 + h * x.a2 * y.a2 - g * h * x.a3 * y.a3 + k * x.a4 * y.a4 - g * k * x.a5 * y.a5 - h * k * x.a6 * y.a6 + g * h * k * x.a7 * y.a7,
   x.a0 * y.a1 + x.a1 * y.a0 + h * x.a3 * y.a2 - h * x.a2 * y.a3 + k * x.a5 * y.a4 - k * x.a4 * y.a5 - h * k * x.a6 * y.a7 + h * k * x.a7 * y.a6,
   x.a0 * y.a2 + g * x.a1 * y.a3 + x.a2 * y.a0 - g * x.a3 * y.a1 + k * x.a6 * y.a4 - g * k * x.a7 * y.a5 - k * x.a4 * y.a6 + g * k * x.a5 * y.a7,
   x.a1 * y.a2 + x.a0 * y.a3 - x.a2 * y.a1 + x.a3 * y.a0 - k * x.a6 * y.a5 + k * x.a7 * y.a4 + k * x.a5 * y.a6 - k * x.a4 * y.a7,
   x.a0 * y.a4 + g * x.a1 * y.a5 + h * x.a2 * y.a6 - g * h * x.a3 * y.a7 + x.a4 * y.a0 - g * x.a5 * y.a1 - h * x.a6 * y.a2 + g * h * x.a7 * y.a3,
   x.a1 * y.a4 + x.a0 * y.a5 + h * x.a2 * y.a7 - h * x.a3 * y.a6 - x.a4 * y.a1 + x.a5 * y.a0 - h * x.a7 * y.a2 + h * x.a6 * y.a3,
   x.a2 * y.a4 + g * x.a3 * y.a5 + x.a0 * y.a6 - g * x.a1 * y.a7 - x.a4 * y.a2 - g * x.a5 * y.a3 + x.a6 * y.a0 + g * x.a7 * y.a1,
   x.a2 * y.a5 + x.a3 * y.a4 - x.a1 * y.a6 + x.a0 * y.a7 - x.a5 * y.a2 - x.a4 * y.a3 + x.a6 * y.a1 + x.a7 * y.a0⟩
def ocj (x : Oc n) : Oc n := ⟨x.a0, -x.a1, -x.a2, -x.a3, -x.a4, -x.a5, -x.a6, -x.a7⟩
def onm (g h k : Fin n) (x : Oc n) : Fin n := x.a0 * x.a0 - g * x.a1 * x.a1 - h * x.a2 * x.a2 + g * h * x.a3 * x.a3 - k * x.a4 * x.a4 + g * k * x.a5 * x.a5 + h * k * x.a6 * x.a6 - g * h * k * x.a7 * x.a7
def osc (c : Fin n) (x : Oc n) : Oc n := ⟨c * x.a0, c * x.a1, c * x.a2, c * x.a3, c * x.a4, c * x.a5, c * x.a6, c * x.a7⟩
def oad (x y : Oc n) : Oc n := ⟨x.a0 + y.a0, x.a1 + y.a1, x.a2 + y.a2, x.a3 + y.a3, x.a4 + y.a4, x.a5 + y.a5, x.a6 + y.a6, x.a7 + y.a7⟩
def toO (n : Nat) [NeZero n] (xs : List Int) : Oc n := ⟨toF n (xs.getD 0 0), toF n (xs.getD 1 0), toF n (xs.getD 2 0), toF n (xs.getD 3 0), toF n (xs.getD 4 0), toF n (xs.getD 5 0), toF n (xs.getD 6 0), toF n (xs.getD 7 0)⟩
theorem toO_conj {p : Int} {xs : List Int} (hp : p = n) : toO n (conjL p xs) = ocj (toO n xs) := by
  match xs with
  | [] => unfold toO ocj; simp [conjL, scaleL, toF_zero]; grind
  | x :: xs =>
    have h : ∀ i, toF n ((scaleL p xs (-1)).getD i 0) = -toF n (xs.getD i 0) := fun i => by
      unfold scaleL
      by_cases hi : i < xs.length
      · rw [List.getD_eq_getElem?_getD, List.getElem?_map, List.getElem?_eq_getElem hi]
        simp only [Option.map_some, Option.getD_some, List.getD_eq_getElem?_getD, List.getElem?_eq_getElem hi]
        rw [hp, toF_mod, toF_mul, toF_neg, toF_one]; grind
      · rw [List.getD_eq_getElem?_getD, List.getD_eq_getElem?_getD, List.getElem?_eq_none (by rw [List.length_map]; omega), List.getElem?_eq_none (by omega)]
        simp only [Option.getD_none, toF_zero]
        grind
    unfold toO ocj
    have e : conjL p (x :: xs) = x :: scaleL p xs (-1) := rfl
    rw [e]
    simp only [List.getD_cons_zero, List.getD_cons_succ, h]
theorem toO_mul0 {p x0 y0 : Int} (hp : p = n) (g h k : Fin n) : toO n (mulL p [] [x0] [y0]) = omul g h k (toO n [x0]) (toO n [y0]) := by
  simp only [mulL, List.reverse_cons, List.reverse_nil, List.nil_append, List.cons_append, mulR, List.length_cons, List.length_nil, plusL, scaleL, conjL, Nat.reduceAdd, Nat.reduceDiv, List.take_succ_cons, List.take_zero, List.drop_succ_cons, List.drop_zero, List.map_cons, List.map_nil, List.zipWith_cons_cons, List.zipWith_nil_left, List.zipWith_nil_right, List.getD_cons_zero, List.getD_cons_succ, List.getD_nil]
  unfold toO omul
  simp only [List.getD_cons_zero, List.getD_cons_succ, List.getD_nil, hp, toF_mod, toF_add, toF_mul, toF_neg, toF_one, toF_zero]
  apply Oc.ext <;> grind
theorem toO_mul1 {p s0 x0 x1 y0 y1 : Int} (hp : p = n) (g h k : Fin n) : toO n (mulL p [s0] [x0, x1] [y0, y1]) = omul (toF n s0) h k (toO n [x0, x1]) (toO n [y0, y1]) := by
  simp only [mulL, List.reverse_cons, List.reverse_nil, List.nil_append, List.cons_append, mulR, List.length_cons, List.length_nil, plusL, scaleL, conjL, Nat.reduceAdd, Nat.reduceDiv, List.take_succ_cons, List.take_zero, List.drop_succ_cons, List.drop_zero, List.map_cons, List.map_nil, List.zipWith_cons_cons, List.zipWith_nil_left, List.zipWith_nil_right, List.getD_cons_zero, List.getD_cons_succ, List.getD_nil]
  unfold toO omul
  simp only [List.getD_cons_zero, List.getD_cons_succ, List.getD_nil, hp, toF_mod, toF_add, toF_mul, toF_neg, toF_one, toF_zero]
  apply Oc.ext <;> grind
theorem toO_mul2 {p s0 s1 x0 x1 x2 x3 y0 y1 y2 y3 : Int} (hp : p = n) (g h k : Fin n) : toO n (mulL p [s0, s1] [x0, x1, x2, x3] [y0, y1, y2, y3]) = omul (toF n s0) (toF n s1) k (toO n [x0, x1, x2, x3]) (toO n [y0, y1, y2, y3]) := by
  simp only [mulL, List.reverse_cons, List.reverse_nil, List.nil_append, List.cons_append, mulR, List.length_cons, List.length_nil, plusL, scaleL, conjL, Nat.reduceAdd, Nat.reduceDiv, List.take_succ_cons, List.take_zero, List.drop_succ_cons, List.drop_zero, List.map_cons, List.map_nil, List.zipWith_cons_cons, List.zipWith_nil_left, List.zipWith_nil_right, List.getD_cons_zero, List.getD_cons_succ, List.getD_nil]
  unfold toO omul
  simp only [List.getD_cons_zero, List.getD_cons_succ, List.getD_nil, hp, toF_mod, toF_add, toF_mul, toF_neg, toF_one, toF_zero]
  apply Oc.ext <;> grind
theorem toO_mul3 {p s0 s1 s2 x0 x1 x2 x3 x4 x5 x6 x7 y0 y1 y2 y3 y4 y5 y6 y7 : Int} (hp : p = n) (g h k : Fin n) : toO n (mulL p [s0, s1, s2] [x0, x1, x2, x3, x4, x5, x6, x7] [y0, y1, y2, y3, y4, y5, y6, y7]) = omul (toF n s0) (toF n s1) (toF n s2) (toO n [x0, x1, x2, x3, x4, x5, x6, x7]) (toO n [y0, y1, y2, y3, y4, y5, y6, y7]) := by
  simp only [mulL, List.reverse_cons, List.reverse_nil, List.nil_append, List.cons_append, mulR, List.length_cons, List.length_nil, plusL, scaleL, conjL, Nat.reduceAdd, Nat.reduceDiv, List.take_succ_cons, List.take_zero, List.drop_succ_cons, List.drop_zero, List.map_cons, List.map_nil, List.zipWith_cons_cons, List.zipWith_nil_left, List.zipWith_nil_right, List.getD_cons_zero, List.getD_cons_succ, List.getD_nil]
  unfold toO omul
  simp only [List.getD_cons_zero, List.getD_cons_succ, List.getD_nil, hp, toF_mod, toF_add, toF_mul, toF_neg, toF_one, toF_zero]
  apply Oc.ext <;> grind
theorem ocj_mul (g h k : Fin n) (x y : Oc n) : ocj (omul g h k x y) = omul g h k (ocj y) (ocj x) := by
  unfold ocj omul
  apply Oc.ext <;> grind
end
end Go.Proofs.Ytfcdhdkhfdhjfaa
/-
  Products of rows as products of octonions, for any number of steps up to three; hermitian matrices over them.
-/
namespace Go.Proofs.Ytfcdhdkhfdhjfaa

section
variable {n : Nat} [NeZero n]
def gam (n : Nat) [NeZero n] (st : List Int) (i : Nat) : Fin n := toF n (st.getD i 0)
theorem toO_mul {p : Int} {st x y : List Int} (hp : p = n) (hst : st.length ≤ 3) (hx : x.length = sz st.length) (hy : y.length = sz st.length) : toO n (mulL p st x y) = omul (gam n st 0) (gam n st 1) (gam n st 2) (toO n x) (toO n y) := by
  match st, hst with
  | [], _ => match x, y, hx, hy with | [a], [b], _, _ => exact toO_mul0 hp _ _ _
  | [s0], _ => match x, y, hx, hy with | [a0, a1], [b0, b1], _, _ => exact (toO_mul1 hp 0 (gam n [s0] 1) (gam n [s0] 2))
  | [s0, s1], _ => match x, y, hx, hy with | [a0, a1, a2, a3], [b0, b1, b2, b3], _, _ => exact (toO_mul2 hp 0 0 (gam n [s0, s1] 2))
  | [s0, s1, s2], _ => match x, y, hx, hy with | [a0, a1, a2, a3, a4, a5, a6, a7], [b0, b1, b2, b3, b4, b5, b6, b7], _, _ => exact (toO_mul3 hp 0 0 0)
end
end Go.Proofs.Ytfcdhdkhfdhjfaa
/-
  Hermitian matrices over octonions modulo n: what the program's matrices compute, in closed form.
-/
namespace Go.Proofs.Ytfcdhdkhfdhjfaa

@[ext] structure H3 (n : Nat) where
  a : Fin n
  b : Fin n
  c : Fin n
  u : Oc n
  v : Oc n
  t : Oc n
section
variable {n : Nat} [NeZero n]
def odt (g h k : Fin n) (x y : Oc n) : Fin n := x.a0 * y.a0 - g * x.a1 * y.a1 - h * x.a2 * y.a2 + g * h * x.a3 * y.a3 - k * x.a4 * y.a4 + g * k * x.a5 * y.a5 + h * k * x.a6 * y.a6 - g * h * k * x.a7 * y.a7
theorem omul_re (g h k : Fin n) (x y : Oc n) : (omul g h k x (ocj y)).a0 = odt g h k x y := by unfold omul ocj odt; grind
/-! ### Entries -/
end
end Go.Proofs.Ytfcdhdkhfdhjfaa
/-
  Adjoints, sums, multiples, traces over octonions modulo n; points and idempotents.
-/
namespace Go.Proofs.Ytfcdhdkhfdhjfaa

section
variable {n : Nat} [NeZero n]
theorem toF_inj {p a b : Int} (hp : p = n) (ha : 0 ≤ a ∧ a < p) (hb : 0 ≤ b ∧ b < p) (h : toF n a = toF n b) : a = b := by
  rw [toF_eq, ← hp, Int.emod_eq_of_lt ha.1 ha.2, Int.emod_eq_of_lt hb.1 hb.2] at h
  exact h
end
end Go.Proofs.Ytfcdhdkhfdhjfaa
/-
  Products of rows: sums, and what rows generate (for seats without automorphisms). No program in sight.
-/
namespace Go.Proofs.Ytfcdhdkhfdhjfaa

section
variable {p : Int} {m : Nat}
theorem dotS_comm : ∀ {x y : List Int}, dotS x y = dotS y x
  | [], [] => rfl
  | [], _ :: _ => rfl
  | _ :: _, [] => rfl
  | a :: x, b :: y => by
    show a * b + dotS x y = b * a + dotS y x
    rw [dotS_comm (x := x), Int.mul_comm]
theorem dotS_plusF {n : Nat} [NeZero n] {c : Int} (hp : p = n) : ∀ {r x y : List Int}, y.length = x.length → toF n (dotS r (plusL p x y c)) = toF n (dotS r x) + toF n c * toF n (dotS r y)
  | [], x, y, _ => by
    show toF n 0 = toF n 0 + toF n c * toF n 0
    rw [toF_zero]; grind
  | a :: r, [], y, h => by
    obtain rfl : y = [] := List.length_eq_zero_iff.1 (by simpa using h)
    show toF n 0 = toF n 0 + toF n c * toF n 0
    rw [toF_zero]; grind
  | a :: r, x :: xs, [], h => by simp at h
  | a :: r, x :: xs, y :: ys, h => by
    have ih := dotS_plusF (c := c) hp (r := r) (x := xs) (y := ys) (by simpa using h)
    show toF n (a * ((x + c * y) % p) + dotS r (plusL p xs ys c)) = toF n (a * x + dotS r xs) + toF n c * toF n (a * y + dotS r ys)
    subst hp
    simp only [toF_add, toF_mul, toF_mod, ih]
    grind
theorem dot_span {n : Nat} [NeZero n] (hn : p = n) {v : List Int} : ∀ {rows : List (List Int)} {cs : List Int}, Rw p m rows → (∀ r ∈ rows, toF n (dotS r v) = 0) → toF n (dotS (comb p m cs rows) v) = 0
  | [], [], _, _ => by show toF n (dotS (zeroL m) v) = 0; rw [dotS_comm, dotS_zr (fun j => zero_at), toF_zero]
  | [], _ :: _, _, _ => by show toF n (dotS (zeroL m) v) = 0; rw [dotS_comm, dotS_zr (fun j => zero_at), toF_zero]
  | _ :: _, [], _, _ => by show toF n (dotS (zeroL m) v) = 0; rw [dotS_comm, dotS_zr (fun j => zero_at), toF_zero]
  | r :: rs, c :: cs, h, hz => by
    have hp : 1 ≤ p := by have := Nat.pos_of_neZero n; omega
    show toF n (dotS (plusL p (comb p m cs rs) r c) v) = 0
    rw [dotS_comm, dotS_plusF hn (h.cons.1.1.trans (comb_ev hp h.cons.2).1.symm), dotS_comm, dot_span hn h.cons.2 (fun x hx => hz x (List.mem_cons_of_mem _ hx)), dotS_comm, hz r (List.mem_cons_self ..)]
    grind
end
end Go.Proofs.Ytfcdhdkhfdhjfaa
