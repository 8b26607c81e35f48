/- Texts joined for a claim: TgD, TgE, TlA. -/
import Derived.Test.YtmplpoccalccoaaTgC
import Derived.Test.YtmplpoccalccoaaTrB
import Derived.Test.YtmplpoccalccoaaLawTr
import Derived.Test.YtmplpoccalccoaaDbB
import Derived.Test.YtmplpoccalccoaaDbS
import Derived.Test.YtmplpoccalccoaaJat
import Derived.Test.YtmplpoccalccoaaTgB
/-
  The checks of triples: program and reference.
-/
namespace Go.Proofs.Ytmplpoccalccoaa
open Go.RowKit

/-- A list of matrices. -/
def Ml (w : World) (v : Value) (Ms : List (List (List Int))) : Prop := ∃ b c, v = .slice (some ⟨b, 0, none⟩) Ms.length c ∧ ∀ j (h : j < Ms.length), ∃ u, w.cell? ⟨b, j, none⟩ = some u ∧ Re w u Ms[j]
theorem Ml.below {w w' : World} {v : Value} {Ms : List (List (List Int))} (h : Ml w v Ms) (hb : Below w.heap.size w w') : Ml w' v Ms := by
  obtain ⟨b, c, rfl, h⟩ := h
  refine ⟨b, c, rfl, fun j hj => ?_⟩
  obtain ⟨u, h1, h2⟩ := h j hj
  exact ⟨u, kept hb h1, h2.below hb⟩
theorem Ml.get {w : World} {b m : Nat} {Ms : List (List (List Int))} (h : ∀ j (h : j < Ms.length), ∃ u, w.cell? ⟨b, j, none⟩ = some u ∧ Re w u Ms[j]) (hm : m < Ms.length) :
    ∃ a c M, M ∈ Ms ∧ w.cell? ⟨b, m, none⟩ = some (.slice a M.length c) ∧ Re w (.slice a M.length c) M ∧ Ms.take (m + 1) = Ms.take m ++ [M] := by
  obtain ⟨u, h1, h2⟩ := h m hm
  obtain ⟨a, c, rfl, _⟩ := id h2
  exact ⟨a, c, Ms[m], List.getElem_mem hm, h1, h2, List.take_succ_eq_append_getElem hm⟩
section
variable {ops : Array Oper} {rest : List Oper} {o : Oper} {a : Act} {Q : Exit → Act → World → Prop}
end
end Go.Proofs.Ytmplpoccalccoaa
/-
  Global triples: what is told, and the contracts of the program's function and of the reference's.
-/
namespace Go.Proofs.Ytmplpoccalccoaa
open Go.RowKit

end Go.Proofs.Ytmplpoccalccoaa
/-
  Local triples: the equations of the program and the reference's test are the same. No program in sight.
-/
namespace Go.Proofs.Ytmplpoccalccoaa

/-- A number added to a place of a row. -/
def addAt (p : Int) (row : List Int) (a : Nat) (x : Int) : List Int := row.set a ((row.getD a 0 + x) % p)
theorem addAt_len {p : Int} {row : List Int} {a : Nat} {x : Int} : (addAt p row a x).length = row.length := by unfold addAt; simp
def skewRow (p : Int) (n : Nat) (D : Nat → Int) (t i k : Nat) : List Int := addAt p ((List.replicate (3 * n * n) 0).set (t * n * n + i * n + k) (D i)) (t * n * n + k * n + i) (D k)
def stepRow (p : Int) (n : Nat) (F : Nat → Nat → Nat → Int) (i j k : Nat) (row : List Int) (r : Nat) : List Int :=
  addAt p (addAt p (addAt p row (r * n + i) (F r j k)) (n * n + r * n + j) (F i r k)) (2 * n * n + r * n + k) (F i j r)
def formRow (p : Int) (n : Nat) (F : Nat → Nat → Nat → Int) (i j k : Nat) : Nat → List Int
  | 0 => List.replicate (3 * n * n) 0
  | r + 1 => stepRow p n F i j k (formRow p n F i j k r) r
def skK (p : Int) (n : Nat) (D : Nat → Int) (t i c : Nat) : List (List Int) := (List.range c).map (skewRow p n D t i)
def skI (p : Int) (n : Nat) (D : Nat → Int) (t c : Nat) : List (List Int) := (List.range c).flatMap fun i => skK p n D t i (i + 1)
def skP (p : Int) (n : Nat) (D : Nat → Int) (c : Nat) : List (List Int) := (List.range c).flatMap fun t => skI p n D t n
def foK (p : Int) (n : Nat) (F : Nat → Nat → Nat → Int) (i j c : Nat) : List (List Int) := (List.range c).map fun k => formRow p n F i j k n
def foJ (p : Int) (n : Nat) (F : Nat → Nat → Nat → Int) (i c : Nat) : List (List Int) := (List.range c).flatMap fun j => foK p n F i j n
def foI (p : Int) (n : Nat) (F : Nat → Nat → Nat → Int) (c : Nat) : List (List Int) := (List.range c).flatMap fun i => foJ p n F i n
def locL (p : Int) (n : Nat) (D : Nat → Int) (F : Nat → Nat → Nat → Int) : List (List Int) := skP p n D 3 ++ foI p n F n
section
variable {p : Int} {n : Nat} {D : Nat → Int} {F : Nat → Nat → Nat → Int} {t i j k c r : Nat}
theorem skK_succ : skK p n D t i (c + 1) = skK p n D t i c ++ [skewRow p n D t i c] := by unfold skK; rw [List.range_succ, List.map_append]; rfl
theorem skI_succ : skI p n D t (c + 1) = skI p n D t c ++ skK p n D t c (c + 1) := by unfold skI; rw [List.range_succ, List.flatMap_append]; simp
theorem skP_succ : skP p n D (c + 1) = skP p n D c ++ skI p n D c n := by unfold skP; rw [List.range_succ, List.flatMap_append]; simp
theorem foK_succ : foK p n F i j (c + 1) = foK p n F i j c ++ [formRow p n F i j c n] := by unfold foK; rw [List.range_succ, List.map_append]; rfl
theorem foJ_succ : foJ p n F i (c + 1) = foJ p n F i c ++ foK p n F i c n := by unfold foJ; rw [List.range_succ, List.flatMap_append]; simp
theorem foI_succ : foI p n F (c + 1) = foI p n F c ++ foJ p n F c n := by unfold foI; rw [List.range_succ, List.flatMap_append]; simp
theorem skewRow_len : (skewRow p n D t i k).length = 3 * n * n := by unfold skewRow; rw [addAt_len]; simp
theorem stepRow_len {row : List Int} : (stepRow p n F i j k row r).length = row.length := by unfold stepRow; rw [addAt_len, addAt_len, addAt_len]
theorem formRow_len : ∀ r, (formRow p n F i j k r).length = 3 * n * n
  | 0 => by simp [formRow]
  | r + 1 => by rw [formRow, stepRow_len, formRow_len r]
theorem idx_lt {a b : Nat} (ha : a < n) (hb : b < n) (ht : t < 3) : t * n * n + a * n + b < 3 * n * n := by
  have h1 : a * n + b < n * n := by
    have : (a + 1) * n ≤ n * n := Nat.mul_le_mul_right n ha
    rw [Nat.succ_mul] at this; omega
  have h2 : (t + 1) * (n * n) ≤ 3 * (n * n) := Nat.mul_le_mul_right _ ht
  rw [Nat.succ_mul] at h2
  rw [Nat.mul_assoc, Nat.mul_assoc]; omega
end
section
variable {p : Int} {A B C : List (List Int)} {n i r : Nat} (mA : matB p n A = true) (mB : matB p n B = true) (mC : matB p n C = true)
include mA mB mC
end
theorem xor_self2 {a b : Nat} : a ^^^ (a ^^^ b) = b := by rw [← Nat.xor_assoc, Nat.xor_self, Nat.zero_xor]
theorem xor_iff {r j k : Nat} : r ^^^ j = k ↔ r = j ^^^ k := by
  constructor
  · intro h; rw [← h, Nat.xor_comm r j, xor_self2]
  · intro h; rw [h, Nat.xor_comm (j ^^^ k) j, xor_self2]
end Go.Proofs.Ytmplpoccalccoaa
