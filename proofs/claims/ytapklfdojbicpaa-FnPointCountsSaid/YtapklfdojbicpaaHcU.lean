/-
  First places other than 0, rows and matrices of zeros, equality of rows.
-/
import Derived.Test.YtapklfdojbicpaaHcT
import Derived.Test.YtapklfdojbicpaaHcK
namespace Go.Proofs.Ytapklfdojbicpaa
open Go.RowKit

def leadN : List Int → Nat
  | [] => 0
  | x :: xs => if x = 0 then leadN xs + 1 else 0
theorem leadN_le : ∀ xs : List Int, leadN xs ≤ xs.length
  | [] => Nat.le_refl _
  | x :: xs => by
    unfold leadN
    have := leadN_le xs
    split <;> simp <;> omega
theorem drop_lead {xs : List Int} {k : Nat} (h : k < xs.length) : leadN (xs.drop k) = if xs[k] = 0 then leadN (xs.drop (k + 1)) + 1 else 0 := by
  rw [List.drop_eq_getElem_cons h]; rfl
theorem isZ_lead : ∀ xs : List Int, isZ xs = decide (leadN xs = xs.length)
  | [] => rfl
  | x :: xs => by
    have := isZ_lead xs
    unfold isZ at *
    rw [List.all_cons, this]
    show ((x == 0) && decide (leadN xs = xs.length)) = decide ((if x = 0 then leadN xs + 1 else 0) = xs.length + 1)
    by_cases h : x = 0
    · rw [if_pos h, h]; simp
    · have hb : (x == 0) = false := by simpa using h
      rw [hb, if_neg h]; simp
theorem lead_c {x : Value} {xs : List Int} {w : World} (hx : Sl w x xs) (hm : xs.length ≤ 1000000) :
    Calls Try.prog 51 #[x] w fun e w' => e = .returned (.int .i64 (leadN xs)) ∧ w = w' := by
  obtain ⟨a, c, rfl, rfl | ⟨b, off, rfl, hx⟩⟩ := hx
  · go_enter Try.func51, Try.ntmps51
    go_wp2
    refine wp_loop_rounds 1 ?_; rw [rounds_succ]
    go_wp2
    go_ret
    exact ⟨rfl, rfl⟩
  go_enter Try.func51, Try.ntmps51
  go_wp2
  go_loop [3] (fun i => ∃ k : Nat, k ≤ xs.length ∧ i = .int .i64 k ∧ leadN xs = k + leadN (xs.drop k)) (fun i => xs.length - (intOf i).toNat)
  case atStart => exact ⟨0, Nat.zero_le _, rfl, by simp⟩
  case round =>
    obtain ⟨k, hk, rfl, hr⟩ := hrel
    by_cases hlt : k < xs.length
    · obtain ⟨u, hu, hcx, htx⟩ := hx.get hlt
      have hd := drop_lead hlt
      have hcx2 := hx.get' hlt
      obtain ⟨q, hq⟩ : ∃ q, q = xs[k] := ⟨_, rfl⟩
      rw [← hq] at hd hcx2
      have HR := Lib.hid hr; have HD := Lib.hid hd
      clear hr hd htx hcx hq hu u
      by_cases h0 : q = 0
      · subst h0
        go_wp2
        go_round
        case rel => exact ⟨k + 1, by omega, by go_num, by rw [HR.out, HD.out, if_pos rfl]; omega⟩
        case measure => simp [intOf]; omega
      · have hne : (q == 0) = false := by simpa using h0
        go_wp2
        go_ret
        exact ⟨by rw [HR.out, HD.out, if_neg h0]; rfl, rfl⟩
    · obtain rfl : k = xs.length := by omega
      rw [List.drop_length] at hr
      have HR := Lib.hid hr; clear hr
      go_wp2
      go_ret
      exact ⟨by rw [HR.out]; rfl, rfl⟩
theorem iszero_c {x : Value} {xs : List Int} {w : World} (hx : Sl w x xs) (hm : xs.length ≤ 1000000) :
    Calls Try.prog 32 #[x] w fun e w' => e = .returned (.bool (isZ xs)) ∧ w = w' := by
  obtain ⟨a, c, rfl, hx'⟩ := id hx
  have hle := leadN_le xs
  have hz := isZ_lead xs
  have hb : ((leadN xs : Int) == (xs.length : Int)) = decide (leadN xs = xs.length) := by
    by_cases h : leadN xs = xs.length
    · simp [h]
    · have h2 : ((leadN xs : Int) == (xs.length : Int)) = false := by rw [beq_eq_false_iff_ne]; omega
      rw [h2, decide_eq_false h]
  have HZ := Lib.hid (hz.trans hb.symm); clear hz hb
  go_enter Try.func32, Try.ntmps32
  go_wp2_with (go_at_call 51; refine (lead_c hx hm).mono ?_; rintro e w1 ⟨rfl, rfl⟩)
  go_ret
  exact ⟨by rw [HZ.out]; rfl, rfl⟩
end Go.Proofs.Ytapklfdojbicpaa
