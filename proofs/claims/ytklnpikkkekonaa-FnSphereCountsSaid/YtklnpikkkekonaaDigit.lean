/-
  Counting in digits: all rows of n digits, from the first digit on and from the last digit on; sums over them. No program in sight.
-/
namespace Go.Proofs.Ytklnpikkkekonaa

def digL (p : Nat) : Nat → Nat → List Int
  | 0, _ => []
  | n + 1, m => ((m % p : Nat) : Int) :: digL p n (m / p)
theorem digL_len {p : Nat} : ∀ n m, (digL p n m).length = n
  | 0, _ => rfl
  | n + 1, m => by simp [digL, digL_len n]
theorem digL_zero {p : Nat} : ∀ n, digL p n 0 = List.replicate n 0
  | 0 => rfl
  | n + 1 => by simp [digL, digL_zero n, List.replicate_succ]
def sumR : Nat → (Nat → Nat) → Nat
  | 0, _ => 0
  | k + 1, g => sumR k g + g k
theorem sumR_congr {g h : Nat → Nat} : ∀ {k}, (∀ i, i < k → g i = h i) → sumR k g = sumR k h
  | 0, _ => rfl
  | k + 1, e => by simp only [sumR]; rw [sumR_congr (k := k) fun i hi => e i (by omega), e k (by omega)]
theorem sumR_add {g h : Nat → Nat} : ∀ k, sumR k (fun i => g i + h i) = sumR k g + sumR k h
  | 0 => rfl
  | k + 1 => by simp only [sumR, sumR_add k]; omega
theorem sumR_zero : ∀ k, sumR k (fun _ => 0) = 0
  | 0 => rfl
  | k + 1 => by simp only [sumR, sumR_zero k]
theorem sumR_comm {g : Nat → Nat → Nat} {b : Nat} : ∀ a, sumR a (fun i => sumR b (fun j => g i j)) = sumR b (fun j => sumR a (fun i => g i j))
  | 0 => (sumR_zero b).symm
  | a + 1 => by
    simp only [sumR]
    rw [sumR_comm a, ← sumR_add]
theorem sumR_app {g : Nat → Nat} {a : Nat} : ∀ b, sumR (a + b) g = sumR a g + sumR b (fun i => g (a + i))
  | 0 => rfl
  | b + 1 => by
    show sumR (a + b) g + g (a + b) = _
    rw [sumR_app b]; simp only [sumR]; omega
theorem sumR_mul {g : Nat → Nat} {a : Nat} : ∀ b, sumR (a * b) g = sumR b (fun j => sumR a (fun i => g (i + a * j)))
  | 0 => rfl
  | b + 1 => by
    rw [Nat.mul_succ, sumR_app, sumR_mul b]
    simp only [sumR]
    congr 1
    exact sumR_congr fun i _ => by rw [Nat.add_comm]
def sumD (p n : Nat) (f : List Int → Nat) : Nat := sumR (p ^ n) fun m => f (digL p n m)
theorem sumD_cons {p n : Nat} (hp : 0 < p) (f : List Int → Nat) : sumD p (n + 1) f = sumR p fun a => sumD p n fun v => f ((a : Int) :: v) := by
  unfold sumD
  rw [Nat.pow_succ, Nat.mul_comm, sumR_mul, sumR_comm]
  refine sumR_congr fun i hi => sumR_congr fun j _ => ?_
  simp only [digL]
  rw [Nat.add_mul_mod_self_left, Nat.mod_eq_of_lt hi, Nat.add_mul_div_left _ _ hp, Nat.div_eq_of_lt hi, Nat.zero_add]
theorem digL_snoc {p : Nat} (hp : 0 < p) : ∀ n i j, i < p ^ n → j < p → digL p (n + 1) (i + p ^ n * j) = digL p n i ++ [(j : Int)]
  | 0, i, j, hi, hj => by
    obtain rfl : i = 0 := by simpa using hi
    simp [digL, Nat.mod_eq_of_lt hj]
  | n + 1, i, j, hi, hj => by
    have h := digL_snoc hp n (i / p) j (by rw [Nat.div_lt_iff_lt_mul hp, ← Nat.pow_succ]; exact hi) hj
    rw [digL.eq_def p (n + 1 + 1), digL.eq_def p (n + 1) i]
    simp only
    have e1 : (i + p ^ (n + 1) * j) % p = i % p := by
      rw [Nat.pow_succ, Nat.mul_comm (p ^ n), Nat.mul_assoc, Nat.add_mul_mod_self_left]
    have e2 : (i + p ^ (n + 1) * j) / p = i / p + p ^ n * j := by
      rw [Nat.pow_succ, Nat.mul_comm (p ^ n), Nat.mul_assoc, Nat.add_mul_div_left _ _ hp]
    rw [e1, e2, h]; rfl
theorem sumD_snoc {p n : Nat} (hp : 0 < p) (f : List Int → Nat) : sumD p (n + 1) f = sumR p fun a => sumD p n fun v => f (v ++ [(a : Int)]) := by
  unfold sumD
  rw [Nat.pow_succ, sumR_mul]
  refine sumR_congr fun j hj => sumR_congr fun i hi => ?_
  rw [digL_snoc hp n i j hi hj]
/-- The order of the digits does not matter to a sum over all rows. -/
theorem sumD_rev {p : Nat} (hp : 0 < p) : ∀ n (f : List Int → Nat), sumD p n (fun v => f v.reverse) = sumD p n f
  | 0, f => by simp [sumD, sumR, digL]
  | n + 1, f => by
    rw [sumD_cons hp, sumD_snoc hp]
    refine sumR_congr fun a _ => ?_
    simp only [List.reverse_cons]
    exact sumD_rev hp n fun v => f (v ++ [(a : Int)])
/-- What is left of the digits behind the first i, where these are all at their most. -/
theorem digL_carry {p : Nat} (hp : 0 < p) : ∀ i n q, digL p (i + n) ((q + 1) * p ^ i) = List.replicate i 0 ++ digL p n (q + 1)
  | 0, n, q => by simp
  | i + 1, n, q => by
    rw [show i + 1 + n = (i + n) + 1 by omega, digL]
    have e1 : (q + 1) * p ^ (i + 1) % p = 0 := by rw [Nat.pow_succ, ← Nat.mul_assoc]; exact Nat.mul_mod_left _ _
    have e2 : (q + 1) * p ^ (i + 1) / p = (q + 1) * p ^ i := by rw [Nat.pow_succ, ← Nat.mul_assoc]; exact Nat.mul_div_cancel _ hp
    rw [e1, e2, digL_carry hp i n q, List.replicate_succ]; rfl
theorem digL_next {p n q : Nat} (hp : 0 < p) (h : q % p + 1 < p) : digL p (n + 1) (q + 1) = ((q % p : Nat) + 1 : Int) :: digL p n (q / p) := by
  have e := Nat.div_add_mod q p
  have e1 : (q + 1) % p = q % p + 1 := by
    rw [Nat.add_mod, Nat.mod_eq_of_lt (show 1 < p by omega), Nat.mod_eq_of_lt h]
  have e2 : (q + 1) / p = q / p := by
    rw [← Nat.mod_add_div q p, Nat.add_right_comm, Nat.add_mul_div_left _ _ hp, Nat.add_mul_div_left _ _ hp, Nat.div_eq_of_lt h, Nat.div_eq_of_lt (Nat.mod_lt _ hp)]
  rw [digL, e1, e2]; rfl
end Go.Proofs.Ytklnpikkkekonaa
