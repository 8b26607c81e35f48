/-
  How many matrices over few numbers are points: counted by the kernel. No program in sight.
-/
import Derived.Test.YtapklfdojbicpaaHcV
namespace Go.Proofs.Ytapklfdojbicpaa

def digN (i j : Nat) : Int := ((i / 3 ^ j % 3 : Nat) : Int)
def rowN (i o : Nat) : Nat → List Int
  | 0 => []
  | k + 1 => rowN i o k ++ [digN i (o + k)]
def matN (s i : Nat) : Her := ⟨rowN i 0 3, [rowN i 3 s, rowN i (3 + s) s, rowN i (3 + 2 * s) s]⟩
def ptN (st : List Int) (s i : Nat) : Bool := rankH 3 st (matN s i) == 1
def cntT (f : Nat → Bool) : Nat → Nat → Nat
  | 0, lo => if f lo then 1 else 0
  | d + 1, lo => cntT f d (3 * lo) + cntT f d (3 * lo + 1) + cntT f d (3 * lo + 2)
def cntU (f : Nat → Bool) : Nat → Nat
  | 0 => 0
  | k + 1 => cntU f k + if f k then 1 else 0
theorem cnt_tree (f : Nat → Bool) : ∀ d lo, cntU f (lo * 3 ^ d) + cntT f d lo = cntU f ((lo + 1) * 3 ^ d)
  | 0, lo => by simp [cntT, cntU]
  | d + 1, lo => by
    have h1 := cnt_tree f d (3 * lo)
    have h2 := cnt_tree f d (3 * lo + 1)
    have h3 := cnt_tree f d (3 * lo + 2)
    have e0 : lo * 3 ^ (d + 1) = 3 * lo * 3 ^ d := by rw [Nat.pow_succ, Nat.mul_comm (3 ^ d) 3, ← Nat.mul_assoc, Nat.mul_comm lo 3]
    have e1 : (lo + 1) * 3 ^ (d + 1) = (3 * lo + 2 + 1) * 3 ^ d := by rw [Nat.pow_succ, Nat.mul_comm (3 ^ d) 3, ← Nat.mul_assoc, show (lo + 1) * 3 = 3 * lo + 2 + 1 by omega]
    rw [show 3 * lo + 1 + 1 = 3 * lo + 2 by omega] at h2
    unfold cntT
    rw [e0, e1]
    omega
theorem cnt_all (f : Nat → Bool) (d : Nat) : cntU f (3 ^ d) = cntT f d 0 := by
  have h := cnt_tree f d 0
  simpa [cntU] using h.symm
theorem cnt27 (f : Nat → Bool) : cntT f 9 0 = (((cntT f 6 0 + cntT f 6 1 + cntT f 6 2) + (cntT f 6 3 + cntT f 6 4 + cntT f 6 5) + (cntT f 6 6 + cntT f 6 7 + cntT f 6 8)) + ((cntT f 6 9 + cntT f 6 10 + cntT f 6 11) + (cntT f 6 12 + cntT f 6 13 + cntT f 6 14) + (cntT f 6 15 + cntT f 6 16 + cntT f 6 17)) + ((cntT f 6 18 + cntT f 6 19 + cntT f 6 20) + (cntT f 6 21 + cntT f 6 22 + cntT f 6 23) + (cntT f 6 24 + cntT f 6 25 + cntT f 6 26))) := rfl
theorem cnt_one : cntT (ptN [] 1) 6 0 = 26 := by decide +kernel
end Go.Proofs.Ytapklfdojbicpaa
