/- Texts joined for a claim: Inv, Dbl, Her. -/
import Derived.Test.YtmplpoccalccoaaGreatJaf
import Derived.Test.YtmplpoccalccoaaGreatRow
/-
  Inverses of numbers, and differences of rows of numbers.
-/
namespace Go.Proofs.YtmplpoccalccoaaGreat
open Go.RowKit

theorem inv_all : ∀ p ∈ [3, 5, 7, 11, 13], ∀ a ∈ List.range p, a ≠ 0 → 1 ≤ invL (p : Nat) (a : Nat) ∧ (a : Int) * invL (p : Nat) (a : Nat) % (p : Nat) = 1 ∧ ∀ b ∈ List.range p, 1 ≤ b → (b : Int) < invL (p : Nat) (a : Nat) → (a : Int) * b % (p : Nat) ≠ 1 := by decide +kernel
theorem inv_tab {p a : Int} (hp : IsP p) (h1 : 1 ≤ a) (h2 : a < p) : 1 ≤ invL p a ∧ a * invL p a % p = 1 ∧ ∀ b, 1 ≤ b → b < invL p a → a * b % p ≠ 1 := by
  obtain ⟨n, rfl⟩ := Int.eq_ofNat_of_zero_le (show 0 ≤ p by have := hp.lo; omega)
  obtain ⟨m, rfl⟩ := Int.eq_ofNat_of_zero_le (show 0 ≤ a by omega)
  have hi := (invL_fp (p := (n : Int)) (a := (m : Int)) (by have := hp.lo; omega)).2
  obtain ⟨k1, k2, k3⟩ := inv_all n (by unfold IsP at hp; simp; omega) m (by simp; omega) (by omega)
  refine ⟨k1, k2, fun b hb1 hb2 => ?_⟩
  obtain ⟨j, rfl⟩ := Int.eq_ofNat_of_zero_le (show 0 ≤ b by omega)
  exact k3 j (by simp; omega) (by omega) hb2
theorem sinv_c {p a : Int} {w : World} (hp : IsP p) (h1 : 1 ≤ a) (h2 : a < p) :
    Calls Tryz.prog 70 #[.int .i64 p, .int .i64 a] w fun e w' => e = .returned (.int .i64 (invL p a)) ∧ w = w' := by
  obtain ⟨t1, t2, t3⟩ := inv_tab hp h1 h2
  have hi := (invL_fp (p := p) (a := a) (by have := hp.lo; omega)).2
  have hp1 := hp.lo
  have hp2 := hp.hi
  obtain ⟨q, hq⟩ : ∃ q, q = invL p a := ⟨_, rfl⟩
  rw [← hq] at t1 t2 t3 hi ⊢
  clear hq
  have T2 := Lib.hid t2; have T3 := Lib.hid t3; clear t2 t3 hp
  go_enter Tryz.func70, Tryz.ntmps70
  go_wp2
  go_loop [5] (fun i => ∃ b : Int, 1 ≤ b ∧ b ≤ q ∧ i = .int .i64 b) (fun i => (q - intOf i).toNat)
  case atStart => exact ⟨1, by omega, t1, rfl⟩
  case round =>
    obtain ⟨b, hb1, hb2, rfl⟩ := hrel
    have hm := mulb (A := 13) (B := 13) (k := a) (y := b) (by omega) (by omega) (by omega) (by omega)
    have h0 : 0 ≤ a * b := Int.mul_nonneg (by omega) (by omega)
    by_cases hlt : b < q
    · have e1 : (a * b % p != 1) = true := by
        rw [bne_iff_ne]; exact T3.out b hb1 hlt
      go_wp2
      go_round
      case rel => exact ⟨b + 1, by omega, by omega, by go_num⟩
      case measure => simp [intOf]; omega
    · obtain rfl : b = q := by omega
      have e1 : (a * b % p != 1) = false := by
        rw [T2.out]; rfl
      go_wp2
      go_ret
      exact ⟨rfl, rfl⟩
theorem below_le {a b : World} (h : Below a.heap.size a b) : a.heap.size ≤ b.heap.size := h.size
theorem plusL_cong {p k k' : Int} (h : k % p = k' % p) : ∀ {xs ys : List Int}, plusL p xs ys k = plusL p xs ys k'
  | [], _ => by simp [plusL]
  | _ :: _, [] => by simp [plusL]
  | x :: xs, y :: ys => by
    have hr := plusL_cong h (xs := xs) (ys := ys)
    simp only [plusL, List.zipWith_cons_cons] at hr ⊢
    rw [hr, Int.add_emod, Int.mul_emod, h, ← Int.mul_emod, ← Int.add_emod]
theorem zw_scale2 {p k m : Int} : ∀ {xs ys : List Int}, plusL p xs (scaleL p ys k) m = plusL p xs ys (k * m)
  | [], _ => by simp [plusL]
  | _ :: _, [] => by simp [plusL, scaleL]
  | x :: xs, y :: ys => by
    have hr := zw_scale2 (p := p) (k := k) (m := m) (xs := xs) (ys := ys)
    simp only [plusL, scaleL, List.map_cons, List.zipWith_cons_cons] at hr ⊢
    rw [hr]
    congr 1
    rw [Int.add_emod, Int.mul_emod m, Int.emod_emod, ← Int.mul_emod, ← Int.add_emod]
    congr 2
    rw [Int.mul_comm y k, ← Int.mul_assoc, Int.mul_comm m k]
theorem sminus_c {p : Int} {x y : Value} {xs ys : List Int} {w : World} (hp : 1 ≤ p) (hp2 : p ≤ 1000)
    (hx : Sl w x xs) (hy : Sl w y ys) (sx : Sm 1000000 xs) (sy : Sm 1000000 ys) (hl : ys.length = xs.length) (hm : xs.length ≤ 1000000) :
    Calls Tryz.prog 77 #[.int .i64 p, x, y] w fun e w' => ∃ v, e = .returned v ∧ FrI w' w.heap.size v (plusL p xs ys (p - 1)) ∧ Below w.heap.size w w' := by
  have HL := Lib.hid hl; clear hl
  have hm2 : ys.length ≤ 1000000 := by rw [HL.out]; exact hm
  have hx1 := hx
  go_enter Tryz.func77, Tryz.ntmps77
  go_wp2_with fail
  refine (sscale_c hp hp2 (by omega) (by omega) hy sy hm2).mono ?_; rintro e w21 ⟨z, rfl, hz, hb21⟩
  have hx := hx.below hb21
  go_wp2_with fail
  refine (sadd_c hp hp2 hx hz.sl sx ((scaleL_fp hp).sm (by omega) (by omega)) (by rw [scaleL_len]; exact HL.out) hm).mono ?_; rintro e w22 ⟨t, rfl, ht, hb22⟩
  have hx := hx.below hb22; have hz := hz.below hb22
  go_wp2_with fail
  go_ret
  refine ⟨_, rfl, ?_, (by repeat (first | exact Below.refl _ _ | apply blw_drew | apply blw_alloc | (refine blw_set ?_ (by first | omega | (simp; done) | (simp; omega)) _) | refine below_chain ?_ (by assumption)))⟩
  rw [zw_scale2, Int.mul_one] at ht
  exact ht.more (below_le (by repeat (first | exact Below.refl _ _ | apply blw_drew | apply blw_alloc | (refine blw_set ?_ (by first | omega | (simp; done) | (simp; omega)) _) | refine below_chain ?_ (by assumption))))
end Go.Proofs.YtmplpoccalccoaaGreat
/-
  Elements of a doubling as rows of numbers: conjugates, products, norms; the first number of a product with a conjugate is the norm. No program in sight.
-/
namespace Go.Proofs.YtmplpoccalccoaaGreat

/-- The number of places for so many steps. -/
def sz (n : Nat) : Nat := 2 ^ n
/-- What a doubling is: a prime and steps other than 0. -/
def isD (p : Int) (st : List Int) : Bool := prB p && decide (st.length ≤ 4) && st.all fun s => inR s 1 (p - 1)
theorem isD_iff {p : Int} {st : List Int} : isD p st = true ↔ IsP p ∧ st.length ≤ 4 ∧ ∀ s ∈ st, 1 ≤ s ∧ s ≤ p - 1 := by
  unfold isD inR prB
  simp only [Bool.and_eq_true, decide_eq_true_eq, List.all_eq_true]
  exact ⟨fun ⟨⟨a, b⟩, c⟩ => ⟨a, b, c⟩, fun ⟨a, b, c⟩ => ⟨⟨a, b⟩, c⟩⟩
def isE (p : Int) (n : Nat) (xs : List Int) : Bool := decide (xs.length = n) && isL p xs
theorem isE_iff {p : Int} {n : Nat} {xs : List Int} : isE p n xs = true ↔ xs.length = n ∧ Fp p xs := by simp [isE, isL_fp]
/-- An element of n numbers. -/
def Ev (p : Int) (n : Nat) (xs : List Int) : Prop := xs.length = n ∧ Fp p xs
def conjL (p : Int) (xs : List Int) : List Int := xs.take 1 ++ scaleL p (xs.drop 1) (-1)
theorem conjL_len {p : Int} {xs : List Int} : (conjL p xs).length = xs.length := by
  unfold conjL
  rw [List.length_append, scaleL_len, List.length_take, List.length_drop]; omega
theorem fp_app {p : Int} {xs ys : List Int} (h : Fp p xs) (k : Fp p ys) : Fp p (xs ++ ys) := fun x hx => by
  rcases List.mem_append.1 hx with h1 | h1
  · exact h x h1
  · exact k x h1
theorem fp_take {p : Int} {xs : List Int} (h : Fp p xs) (k : Nat) : Fp p (xs.take k) := fun x hx => h x (List.mem_of_mem_take hx)
theorem fp_drop {p : Int} {xs : List Int} (h : Fp p xs) (k : Nat) : Fp p (xs.drop k) := fun x hx => h x (List.mem_of_mem_drop hx)
theorem conjL_fp {p : Int} {xs : List Int} (hp : 1 ≤ p) (h : Fp p xs) : Fp p (conjL p xs) := fp_app (fp_take h _) (scaleL_fp hp)
theorem Ev.conj {p : Int} {n : Nat} {xs : List Int} (hp : 1 ≤ p) (h : Ev p n xs) : Ev p n (conjL p xs) := ⟨by rw [conjL_len]; exact h.1, conjL_fp hp h.2⟩
/-- The product; the steps from the last one on. -/
def mulR (p : Int) : List Int → List Int → List Int → List Int
  | [], x, y => [x.getD 0 0 * y.getD 0 0 % p]
  | g :: r, x, y => plusL p (mulR p r (x.take (x.length / 2)) (y.take (x.length / 2))) (mulR p r (conjL p (y.drop (x.length / 2))) (x.drop (x.length / 2))) g ++
      plusL p (mulR p r (y.drop (x.length / 2)) (x.take (x.length / 2))) (mulR p r (x.drop (x.length / 2)) (conjL p (y.take (x.length / 2)))) 1
def mulL (p : Int) (st x y : List Int) : List Int := mulR p st.reverse x y
theorem half_len {x : List Int} {n : Nat} (h : x.length = 2 ^ (n + 1)) : x.length / 2 = 2 ^ n := by rw [h, Nat.pow_succ]; omega
theorem mulR_len {p : Int} : ∀ {rs x y : List Int}, x.length = 2 ^ rs.length → y.length = 2 ^ rs.length → (mulR p rs x y).length = 2 ^ rs.length
  | [], x, y, _, _ => rfl
  | g :: r, x, y, hx, hy => by
    have h2 := half_len hx
    have e : x.length = 2 ^ r.length + 2 ^ r.length := by rw [hx, List.length_cons, Nat.pow_succ]; omega
    have e' : y.length = 2 ^ r.length + 2 ^ r.length := by rw [hy, List.length_cons, Nat.pow_succ]; omega
    have l1 : (x.take (2 ^ r.length)).length = 2 ^ r.length := by rw [List.length_take]; omega
    have l2 : (x.drop (2 ^ r.length)).length = 2 ^ r.length := by rw [List.length_drop]; omega
    have l3 : (y.take (2 ^ r.length)).length = 2 ^ r.length := by rw [List.length_take]; omega
    have l4 : (y.drop (2 ^ r.length)).length = 2 ^ r.length := by rw [List.length_drop]; omega
    unfold mulR
    rw [h2, List.length_append, plusL_len, plusL_len, mulR_len l1 l3, mulR_len l4 l1]
    · rw [List.length_cons, Nat.pow_succ]; omega
    · rw [mulR_len l2 (by rw [conjL_len]; exact l3), mulR_len l4 l1]
    · rw [mulR_len (by rw [conjL_len]; exact l4) l2, mulR_len l1 l3]
theorem mulR_fp {p : Int} (hp : 1 ≤ p) : ∀ {rs x y : List Int}, Fp p (mulR p rs x y)
  | [], x, y => fun z hz => by
    simp only [mulR, List.mem_singleton] at hz
    subst hz
    exact mod_fp hp
  | g :: r, x, y => by
    unfold mulR
    exact fp_app (plusL_fp hp) (plusL_fp hp)
theorem mulL_ev {p : Int} {st x y : List Int} (hp : 1 ≤ p) (hx : Ev p (sz st.length) x) (hy : Ev p (sz st.length) y) : Ev p (sz st.length) (mulL p st x y) :=
  ⟨by unfold mulL sz; rw [mulR_len (by rw [List.length_reverse]; exact hx.1) (by rw [List.length_reverse]; exact hy.1), List.length_reverse], mulR_fp hp⟩
theorem scale_neg {p : Int} {xs : List Int} : scaleL p xs (p - 1) = scaleL p xs (-1) := by
  unfold scaleL
  refine List.map_congr_left fun x _ => ?_
  rw [Int.mul_sub, Int.sub_eq_add_neg, Int.add_comm, Int.add_mul_emod_self_right]
  congr 1; omega
theorem plus_scale {p k : Int} : ∀ {xs ys : List Int}, plusL p xs (scaleL p ys k) 1 = plusL p xs ys k
  | [], ys => by simp [plusL]
  | x :: xs, [] => by simp [plusL, scaleL]
  | x :: xs, y :: ys => by
    have := plus_scale (p := p) (k := k) (xs := xs) (ys := ys)
    simp only [plusL, scaleL, List.map_cons, List.zipWith_cons_cons] at this ⊢
    rw [this, Int.one_mul, Int.add_emod_emod, Int.mul_comm y k]
/-! ### Norms -/
end Go.Proofs.YtmplpoccalccoaaGreat
/-
  Hermitian matrices as rows of numbers: the plain functions that the program and the reference compute. No program in sight.
-/
namespace Go.Proofs.YtmplpoccalccoaaGreat

def Her.d (X : Her) (i : Nat) : Int := X.dg.getD i 0
def Her.r (X : Her) (i : Nat) : List Int := X.up.getD i []
def isH (p : Int) (n : Nat) (X : Her) : Bool := decide (X.dg.length = 3) && isL p X.dg && (decide (X.up.length = 3) && X.up.all (isE p n))
/-- A hermitian matrix, by its parts. -/
theorem isH_op {p : Int} {n : Nat} {X : Her} (h : isH p n X = true) : ∃ a b c u v t, X = ⟨[a, b, c], [u, v, t]⟩ ∧ 0 ≤ a ∧ a < p ∧ 0 ≤ b ∧ b < p ∧ 0 ≤ c ∧ c < p ∧ Ev p n u ∧ Ev p n v ∧ Ev p n t := by
  obtain ⟨dg, up⟩ := X
  unfold isH at h
  simp only [Bool.and_eq_true, decide_eq_true_eq, isL_fp, List.all_eq_true, isE_iff] at h
  obtain ⟨⟨h1, h2⟩, h3, h4⟩ := h
  match dg, up, h1, h3, h2, h4 with
  | [a, b, c], [u, v, t], _, _, h2, h4 =>
    have ha := h2 a (by simp)
    have hb := h2 b (by simp)
    have hc := h2 c (by simp)
    exact ⟨a, b, c, u, v, t, rfl, ha.1, ha.2, hb.1, hb.2, hc.1, hc.2, h4 u (by simp), h4 v (by simp), h4 t (by simp)⟩
theorem isH_mk {p : Int} {n : Nat} {a b c : Int} {u v t : List Int} (ha : 0 ≤ a ∧ a < p) (hb : 0 ≤ b ∧ b < p) (hc : 0 ≤ c ∧ c < p) (hu : Ev p n u) (hv : Ev p n v) (ht : Ev p n t) : isH p n ⟨[a, b, c], [u, v, t]⟩ = true := by
  unfold isH
  simp only [Bool.and_eq_true, decide_eq_true_eq, isL_fp, List.all_eq_true, isE_iff]
  refine ⟨⟨rfl, fun x hx => ?_⟩, rfl, fun x hx => ?_⟩
  · simp at hx; rcases hx with rfl | rfl | rfl <;> assumption
  · simp at hx; rcases hx with rfl | rfl | rfl <;> assumption
/-- An element of the basis. -/
def oneL (n i : Nat) : List Int := (List.replicate n 0).set i 1
def entryH (p : Int) (n : Nat) (X : Her) (i j : Nat) : List Int :=
  if i = j then scaleL p (oneL n 0) (X.d i) else if (i + 1) % 3 = j then X.r (3 - i - j) else conjL p (X.r (3 - i - j))
def eopH (p : Int) (st : List Int) (X Y : Her) (i j : Nat) : List Int :=
  plusL p (plusL p (plusL p (List.replicate (sz st.length) 0) (mulL p st (entryH p (sz st.length) X i 0) (entryH p (sz st.length) Y 0 j)) 1)
    (mulL p st (entryH p (sz st.length) X i 1) (entryH p (sz st.length) Y 1 j)) 1) (mulL p st (entryH p (sz st.length) X i 2) (entryH p (sz st.length) Y 2 j)) 1
def halfH (p : Int) (st : List Int) (X Y : Her) (i j : Nat) : List Int := scaleL p (plusL p (eopH p st X Y i j) (eopH p st Y X i j) 1) (invL p 2)
def jordanH (p : Int) (st : List Int) (X Y : Her) : Her :=
  ⟨[(halfH p st X Y 0 0).getD 0 0, (halfH p st X Y 1 1).getD 0 0, (halfH p st X Y 2 2).getD 0 0], [halfH p st X Y 1 2, halfH p st X Y 2 0, halfH p st X Y 0 1]⟩
def sumH (p : Int) (X : Her) (n : Int) (Y : Her) : Her := ⟨plusL p X.dg Y.dg n, [plusL p (X.r 0) (Y.r 0) n, plusL p (X.r 1) (Y.r 1) n, plusL p (X.r 2) (Y.r 2) n]⟩
def multH (p : Int) (X : Her) (n : Int) : Her := ⟨scaleL p X.dg n, [scaleL p (X.r 0) n, scaleL p (X.r 1) n, scaleL p (X.r 2) n]⟩
def unitH (n : Nat) : Her := ⟨[1, 1, 1], [List.replicate n 0, List.replicate n 0, List.replicate n 0]⟩
def numsH (X : Her) : List Int := X.dg ++ X.up.flatten
/-- The code of a doubling with at most three steps, and elements. -/
def chk3 (p : Int) (st : List Int) (xss : List (List Int)) : Int :=
  if isD p st = true then (if 3 < st.length then 3 else if xss.all (isE p (sz st.length)) = true then 0 else 2) else 1
def chkH (p : Int) (st : List Int) (l : List Her) : Int :=
  if isD p st = true then (if 3 < st.length then 3 else if l.all (isH p (sz st.length)) = true then 0 else 2) else 1
end Go.Proofs.YtmplpoccalccoaaGreat
