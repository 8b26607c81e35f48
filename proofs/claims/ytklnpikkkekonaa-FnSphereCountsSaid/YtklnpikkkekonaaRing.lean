/-
  Integers modulo n, as numbers of Fin n: sums, products, remainders. No program in sight.
-/
namespace Go.Proofs.Ytklnpikkkekonaa
def toF (n : Nat) [NeZero n] (a : Int) : Fin n := ⟨(a % (n:Int)).toNat, by
  have := Nat.pos_of_neZero n
  have h1 := Int.emod_nonneg a (b := (n:Int)) (by omega)
  have h2 := Int.emod_lt_of_pos a (b := (n:Int)) (by omega)
  omega⟩
theorem toF_eq (n : Nat) [NeZero n] (a b : Int) : toF n a = toF n b ↔ a % (n:Int) = b % (n:Int) := by
  have := Nat.pos_of_neZero n
  have h1 := Int.emod_nonneg a (b := (n:Int)) (by omega)
  have h2 := Int.emod_nonneg b (b := (n:Int)) (by omega)
  simp only [toF, Fin.mk.injEq]
  omega
theorem toF_add (n : Nat) [NeZero n] (a b : Int) : toF n (a + b) = toF n a + toF n b := by
  have := Nat.pos_of_neZero n
  have h1 := Int.emod_nonneg a (b := (n:Int)) (by omega)
  have h2 := Int.emod_nonneg b (b := (n:Int)) (by omega)
  apply Fin.ext
  simp only [toF, Fin.val_add]
  rw [Int.add_emod]
  have h3 : (((a % (n:Int)).toNat + (b % (n:Int)).toNat : Nat) : Int) = a % n + b % n := by omega
  rw [← h3, ← Int.natCast_emod, Int.toNat_natCast]
theorem toF_mul (n : Nat) [NeZero n] (a b : Int) : toF n (a * b) = toF n a * toF n b := by
  have := Nat.pos_of_neZero n
  have h1 := Int.emod_nonneg a (b := (n:Int)) (by omega)
  have h2 := Int.emod_nonneg b (b := (n:Int)) (by omega)
  apply Fin.ext
  simp only [toF, Fin.val_mul]
  rw [Int.mul_emod]
  have h3 : (((a % (n:Int)).toNat * (b % (n:Int)).toNat : Nat) : Int) = (a % n) * (b % n) := by
    rw [Int.natCast_mul, Int.toNat_of_nonneg h1, Int.toNat_of_nonneg h2]
  rw [← h3, ← Int.natCast_emod, Int.toNat_natCast]
theorem toF_neg (n : Nat) [NeZero n] (a : Int) : toF n (-a) = -toF n a := by
  have h : toF n (-a) + toF n a = toF n 0 := by rw [← toF_add]; congr 1; omega
  have h0 : toF n 0 = 0 := by apply Fin.ext; simp [toF]
  grind
theorem toF_sub (n : Nat) [NeZero n] (a b : Int) : toF n (a - b) = toF n a - toF n b := by
  rw [Int.sub_eq_add_neg, toF_add, toF_neg]; grind
theorem toF_mod (n : Nat) [NeZero n] (a : Int) : toF n (a % (n:Int)) = toF n a := by
  rw [toF_eq]; exact Int.emod_emod_of_dvd _ (Int.dvd_refl _)
theorem toF_one (n : Nat) [NeZero n] : toF n 1 = 1 := by
  apply Fin.ext
  simp only [toF]
  rw [show (1 : Int) = ((1 : Nat) : Int) by rfl, ← Int.natCast_emod, Int.toNat_natCast]
  rfl
theorem toF_zero (n : Nat) [NeZero n] : toF n 0 = 0 := by apply Fin.ext; simp [toF]
theorem toF_two (n : Nat) [NeZero n] : toF n 2 = 2 := by
  rw [show (2 : Int) = 1 + 1 by rfl, toF_add, toF_one]; grind
theorem toF_self (n : Nat) [NeZero n] : toF n (n : Int) = 0 := by
  rw [← toF_mod, Int.emod_self, toF_zero]
end Go.Proofs.Ytklnpikkkekonaa
