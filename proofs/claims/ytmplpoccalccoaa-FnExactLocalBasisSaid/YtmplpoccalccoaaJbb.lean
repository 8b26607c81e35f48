/- Texts joined for a claim: HcL, HcM, HcS, HcD, HcF, HcG, HcI, HcJ, HcQ, HcR, HcT, HcK, HcU. -/
import Derived.Test.YtmplpoccalccoaaJba
import Derived.Test.YtmplpoccalccoaaJat
import Derived.Test.YtmplpoccalccoaaJap
import Derived.Deep.DeepCutAuto
/-
  The unit matrix.
-/
namespace Go.Proofs.Ytmplpoccalccoaa
open Go.RowKit

/-- A local whose rows are appended to; its diagonal is left as it is. -/
structure OutU (w : World) (N : Nat) (dv uv : Value) (us : List Value) (up : List (List Int)) : Prop where
  bx : Bx w N dv uv
  ou : OwV w (N + 1) uv us
  rows : RowsA w (N + 1) us up
theorem OutU.below {w w' : World} {N : Nat} {dv uv : Value} {us : List Value} {up : List (List Int)} (h : OutU w N dv uv us up) (hb : Below w.heap.size w w') : OutU w' N dv uv us up := ⟨h.bx.below hb, h.ou.below hb, h.rows.below hb⟩
theorem OutU.row {W w' : World} {N : Nat} {dv uv : Value} {us : List Value} {up : List (List Int)} (h : OutU W N dv uv us up) {z nv : Value} {xs : List Int} (hz : FrI W (N + 1) z xs) (hne : ∀ y ∈ us, y.ownBlock ≠ z.ownBlock) (ho : OwV w' (N + 1) nv (us ++ [z])) (hb : Below (N + 1) W w') (hg : W.grownBy w' uv.ownBlock) :
    OutU (w'.setCell ⟨N, 1, none⟩ nv) N dv nv (us ++ [z]) (up ++ [xs]) :=
  ⟨(h.bx.bl hb (Nat.lt_succ_self _)).set1 nv, ho.set_ (Nat.lt_succ_self _) _, ((h.rows.app h.ou hg).snoc (hz.app h.ou hg) hne).set_ (Nat.lt_succ_self _) _⟩
end Go.Proofs.Ytmplpoccalccoaa
/-
  Matrices out of rows of numbers; the program's unit.
-/
namespace Go.Proofs.Ytmplpoccalccoaa
open Go.RowKit

end Go.Proofs.Ytmplpoccalccoaa
/-
  The numbers of a matrix in one row, and sums of matrices: the program's.
-/
namespace Go.Proofs.Ytmplpoccalccoaa
open Go.RowKit

end Go.Proofs.Ytmplpoccalccoaa
/-
  Determinants of hermitian matrices.
-/
namespace Go.Proofs.Ytmplpoccalccoaa
open Go.RowKit

end Go.Proofs.Ytmplpoccalccoaa
/-
  Entries of hermitian matrices and of their products.
-/
namespace Go.Proofs.Ytmplpoccalccoaa
open Go.RowKit

theorem Ev.plus {p k : Int} {n : Nat} {xs ys : List Int} (hp : 1 ≤ p) (h : Ev p n xs) (h' : Ev p n ys) : Ev p n (plusL p xs ys k) := ⟨by rw [plusL_len (by rw [h.1, h'.1])]; exact h.1, plusL_fp hp⟩
theorem Ev.scale {p k : Int} {n : Nat} {xs : List Int} (hp : 1 ≤ p) (h : Ev p n xs) : Ev p n (scaleL p xs k) := ⟨by rw [scaleL_len]; exact h.1, scaleL_fp hp⟩
theorem Ev.zero {p : Int} {n : Nat} (hp : 1 ≤ p) : Ev p n (List.replicate n 0) := ⟨List.length_replicate, fun x hx => by have := List.eq_of_mem_replicate hx; omega⟩
theorem Ev.one {p : Int} {n i : Nat} (hp : 2 ≤ p) : Ev p n (oneL n i) := ⟨oneL_len, oneL_fp hp⟩
end Go.Proofs.Ytmplpoccalccoaa
/-
  Entries of products of hermitian matrices.
-/
namespace Go.Proofs.Ytmplpoccalccoaa
open Go.RowKit

end Go.Proofs.Ytmplpoccalccoaa
/-
  Jordan products.
-/
namespace Go.Proofs.Ytmplpoccalccoaa
open Go.RowKit

end Go.Proofs.Ytmplpoccalccoaa
/-
  The reference's Jordan product, and the pairing.
-/
namespace Go.Proofs.Ytmplpoccalccoaa
open Go.RowKit

end Go.Proofs.Ytmplpoccalccoaa
/-
  The adjoint.
-/
namespace Go.Proofs.Ytmplpoccalccoaa
open Go.RowKit

end Go.Proofs.Ytmplpoccalccoaa
/-
  The reference's adjoint.
-/
namespace Go.Proofs.Ytmplpoccalccoaa
open Go.RowKit

end Go.Proofs.Ytmplpoccalccoaa
/-
  Sums of matrices: the reference's.
-/
namespace Go.Proofs.Ytmplpoccalccoaa
open Go.RowKit

end Go.Proofs.Ytmplpoccalccoaa
/-
  The pairing of hermitian matrices.
-/
namespace Go.Proofs.Ytmplpoccalccoaa
open Go.RowKit

end Go.Proofs.Ytmplpoccalccoaa
/-
  First places other than 0, rows and matrices of zeros, equality of rows.
-/
namespace Go.Proofs.Ytmplpoccalccoaa
open Go.RowKit

def leadN : List Int → Nat
  | [] => 0
  | x :: xs => if x = 0 then leadN xs + 1 else 0
theorem leadN_le : ∀ xs : List Int, leadN xs ≤ xs.length
  | [] => Nat.le_refl _
  | x :: xs => by
    unfold leadN
    have := leadN_le xs
    split <;> simp <;> omega
theorem drop_lead {xs : List Int} {k : Nat} (h : k < xs.length) : leadN (xs.drop k) = if xs[k] = 0 then leadN (xs.drop (k + 1)) + 1 else 0 := by
  rw [List.drop_eq_getElem_cons h]; rfl
theorem lead_c {x : Value} {xs : List Int} {w : World} (hx : Sl w x xs) (hm : xs.length ≤ 1000000) :
    Calls Try.prog 117 #[x] w fun e w' => e = .returned (.int .i64 (leadN xs)) ∧ w = w' := by
  obtain ⟨a, c, rfl, rfl | ⟨b, off, rfl, hx⟩⟩ := hx
  · go_enter Try.func117, Try.ntmps117
    go_wp2
    refine wp_loop_rounds 1 ?_; rw [rounds_succ]
    go_wp2
    go_ret
    exact ⟨rfl, rfl⟩
  go_enter Try.func117, Try.ntmps117
  go_wp2
  go_loop [3] (fun i => ∃ k : Nat, k ≤ xs.length ∧ i = .int .i64 k ∧ leadN xs = k + leadN (xs.drop k)) (fun i => xs.length - (intOf i).toNat)
  case atStart => exact ⟨0, Nat.zero_le _, rfl, by simp⟩
  case round =>
    obtain ⟨k, hk, rfl, hr⟩ := hrel
    by_cases hlt : k < xs.length
    · obtain ⟨u, hu, hcx, htx⟩ := hx.get hlt
      have hd := drop_lead hlt
      have hcx2 := hx.get' hlt
      obtain ⟨q, hq⟩ : ∃ q, q = xs[k] := ⟨_, rfl⟩
      rw [← hq] at hd hcx2
      have HR := Lib.hid hr; have HD := Lib.hid hd
      clear hr hd htx hcx hq hu u
      by_cases h0 : q = 0
      · subst h0
        go_wp2
        go_round
        case rel => exact ⟨k + 1, by omega, by go_num, by rw [HR.out, HD.out, if_pos rfl]; omega⟩
        case measure => simp [intOf]; omega
      · have hne : (q == 0) = false := by simpa using h0
        go_wp2
        go_ret
        exact ⟨by rw [HR.out, HD.out, if_neg h0]; rfl, rfl⟩
    · obtain rfl : k = xs.length := by omega
      rw [List.drop_length] at hr
      have HR := Lib.hid hr; clear hr
      go_wp2
      go_ret
      exact ⟨by rw [HR.out]; rfl, rfl⟩
theorem first_c {x : Value} {xs : List Int} {w : World} (hx : Sl w x xs) (hm : xs.length ≤ 1000000) :
    Calls Try.prog 79 #[x] w fun e w' => e = .returned (.int .i64 (leadN xs)) ∧ w = w' := by
  obtain ⟨a, c, rfl, rfl | ⟨b, off, rfl, hx⟩⟩ := hx
  · go_enter Try.func79, Try.ntmps79
    go_wp2
    refine wp_loop_rounds 1 ?_; rw [rounds_succ]
    go_wp2
    go_ret
    exact ⟨rfl, rfl⟩
  go_enter Try.func79, Try.ntmps79
  go_wp2
  go_loop [3] (fun i => ∃ k : Nat, k ≤ xs.length ∧ i = .int .i64 k ∧ leadN xs = k + leadN (xs.drop k)) (fun i => xs.length - (intOf i).toNat)
  case atStart => exact ⟨0, Nat.zero_le _, rfl, by simp⟩
  case round =>
    obtain ⟨k, hk, rfl, hr⟩ := hrel
    by_cases hlt : k < xs.length
    · obtain ⟨u, hu, hcx, htx⟩ := hx.get hlt
      have hd := drop_lead hlt
      have hcx2 := hx.get' hlt
      obtain ⟨q, hq⟩ : ∃ q, q = xs[k] := ⟨_, rfl⟩
      rw [← hq] at hd hcx2
      have HR := Lib.hid hr; have HD := Lib.hid hd
      clear hr hd htx hcx hq hu u
      by_cases h0 : q = 0
      · subst h0
        go_wp2
        go_round
        case rel => exact ⟨k + 1, by omega, by go_num, by rw [HR.out, HD.out, if_pos rfl]; omega⟩
        case measure => simp [intOf]; omega
      · have hne : (q == 0) = false := by simpa using h0
        go_wp2
        go_ret
        exact ⟨by rw [HR.out, HD.out, if_neg h0]; rfl, rfl⟩
    · obtain rfl : k = xs.length := by omega
      rw [List.drop_length] at hr
      have HR := Lib.hid hr; clear hr
      go_wp2
      go_ret
      exact ⟨by rw [HR.out]; rfl, rfl⟩
end Go.Proofs.Ytmplpoccalccoaa
