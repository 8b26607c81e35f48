/-
  Spaces: a prime and a row of squares, as a value of two parts; the laws' helpers over them, and the program's small questions.
-/
import Derived.Test.YtmplpoccalccoaaLaw
namespace Go.Proofs.Ytmplpoccalccoaa
open Go.RowKit

theorem kept {W w1 : World} (hb : Below W.heap.size W w1) {b o : Nat} {v : Value} (h : W.cell? ⟨b, o, none⟩ = some v) : w1.cell? ⟨b, o, none⟩ = some v := by
  rw [hb.cell (p := ⟨b, o, none⟩) (World.block_lt_of_cell? W _ h)]; exact h
theorem keptF {W w1 : World} (hb : Below W.heap.size W w1) {b o : Nat} (hlt : b < W.heap.size) (h : W.frozen? ⟨b, o, none⟩ = false) : w1.frozen? ⟨b, o, none⟩ = false := by
  rw [hb.frozen (p := ⟨b, o, none⟩) hlt]; exact h
theorem OwnI.other {w : World} {B g n cap : Nat} {xs : List Int} (h : OwnI w B g n cap xs) {p : Addr} (hp : g ≠ p.block) (u : Value) : OwnI (w.setCell p u) B g n cap xs := by
  obtain ⟨cur, hh, hc, ht⟩ := h.row
  exact OwnI.mk_ h.lt.1 (by rw [← hh]; exact Below.heap_setCell _ _ _ _ hp) hc ht h.caps.1 h.caps.2
theorem szI_bd {left : Int} {n : Nat} (h0 : 0 ≤ left) (h1 : left ≤ 1048576) : -1 ≤ szI left n ∧ szI left n ≤ 1048576 := by unfold szI; split <;> omega
theorem szI_neg {left : Int} {n : Nat} (h : szI left n < 0) : szI left n = -1 := by unfold szI at h ⊢; split <;> simp_all
theorem sprime_c {p : Int} {w : World} : Calls Try.prog 134 #[.int .i64 p] w fun e w' => e = .returned (.bool (prB p)) ∧ w = w' := by
  by_cases h3 : p = 3
  · subst h3; go_enter Try.func134, Try.ntmps134; go_wp2; go_ret; exact ⟨rfl, rfl⟩
  by_cases h5 : p = 5
  · subst h5; go_enter Try.func134, Try.ntmps134; go_wp2; go_ret; exact ⟨rfl, rfl⟩
  by_cases h7 : p = 7
  · subst h7; go_enter Try.func134, Try.ntmps134; go_wp2; go_ret; exact ⟨rfl, rfl⟩
  by_cases h11 : p = 11
  · subst h11; go_enter Try.func134, Try.ntmps134; go_wp2; go_ret; exact ⟨rfl, rfl⟩
  by_cases h13 : p = 13
  · subst h13; go_enter Try.func134, Try.ntmps134; go_wp2; go_ret; exact ⟨rfl, rfl⟩
  have e : prB p = false := by simp [prB, IsP, *]
  have E := Lib.hid e; clear e
  have g3 : (p == 3) = false := by simpa using h3
  have g5 : (p == 5) = false := by simpa using h5
  have g7 : (p == 7) = false := by simpa using h7
  have g11 : (p == 11) = false := by simpa using h11
  have g13 : (p == 13) = false := by simpa using h13
  go_enter Try.func134, Try.ntmps134; go_wp2; go_ret; exact ⟨by rw [E.out]; rfl, rfl⟩
theorem sin_c {n l h : Int} {w : World} :
    Calls Try.prog 127 #[.int .i64 n, .int .i64 l, .int .i64 h] w fun e w' => e = .returned (.bool (inR n l h)) ∧ w = w' := by
  by_cases h1 : l ≤ n
  · go_enter Try.func127, Try.ntmps127
    go_wp2
    go_ret
    exact ⟨by simp [inR, *], rfl⟩
  · go_enter Try.func127, Try.ntmps127
    go_wp2
    go_ret
    exact ⟨by simp [inR]; omega, rfl⟩
theorem prB_iff {p : Int} : prB p = true ↔ IsP p := by simp [prB]
end Go.Proofs.Ytmplpoccalccoaa
