/-
  First places other than 0, rows and matrices of zeros, equality of rows.
-/
import Derived.Test.YtgkceadllcjeoaaJap
namespace Go.Proofs.Ytgkceadllcjeoaa
open Go.RowKit

def leadN : List Int → Nat
  | [] => 0
  | x :: xs => if x = 0 then leadN xs + 1 else 0
theorem leadN_le : ∀ xs : List Int, leadN xs ≤ xs.length
  | [] => Nat.le_refl _
  | x :: xs => by
    unfold leadN
    have := leadN_le xs
    split <;> simp <;> omega
theorem drop_lead {xs : List Int} {k : Nat} (h : k < xs.length) : leadN (xs.drop k) = if xs[k] = 0 then leadN (xs.drop (k + 1)) + 1 else 0 := by
  rw [List.drop_eq_getElem_cons h]; rfl
theorem first_c {x : Value} {xs : List Int} {w : World} (hx : Sl w x xs) (hm : xs.length ≤ 1000000) :
    Calls Try.prog 71 #[x] w fun e w' => e = .returned (.int .i64 (leadN xs)) ∧ w = w' := by
  obtain ⟨a, c, rfl, rfl | ⟨b, off, rfl, hx⟩⟩ := hx
  · go_enter Try.func71, Try.ntmps71
    go_wp2
    refine wp_loop_rounds 1 ?_; rw [rounds_succ]
    go_wp2
    go_ret
    exact ⟨rfl, rfl⟩
  go_enter Try.func71, Try.ntmps71
  go_wp2
  go_loop [3] (fun i => ∃ k : Nat, k ≤ xs.length ∧ i = .int .i64 k ∧ leadN xs = k + leadN (xs.drop k)) (fun i => xs.length - (intOf i).toNat)
  case atStart => exact ⟨0, Nat.zero_le _, rfl, by simp⟩
  case round =>
    obtain ⟨k, hk, rfl, hr⟩ := hrel
    by_cases hlt : k < xs.length
    · obtain ⟨u, hu, hcx, htx⟩ := hx.get hlt
      have hd := drop_lead hlt
      have hcx2 := hx.get' hlt
      obtain ⟨q, hq⟩ : ∃ q, q = xs[k] := ⟨_, rfl⟩
      rw [← hq] at hd hcx2
      have HR := Lib.hid hr; have HD := Lib.hid hd
      clear hr hd htx hcx hq hu u
      by_cases h0 : q = 0
      · subst h0
        go_wp2
        go_round
        case rel => exact ⟨k + 1, by omega, by go_num, by rw [HR.out, HD.out, if_pos rfl]; omega⟩
        case measure => simp [intOf]; omega
      · have hne : (q == 0) = false := by simpa using h0
        go_wp2
        go_ret
        exact ⟨by rw [HR.out, HD.out, if_neg h0]; rfl, rfl⟩
    · obtain rfl : k = xs.length := by omega
      rw [List.drop_length] at hr
      have HR := Lib.hid hr; clear hr
      go_wp2
      go_ret
      exact ⟨by rw [HR.out]; rfl, rfl⟩
theorem equal_c {x y : Value} {xs ys : List Int} {w : World} (hx : Sl w x xs) (hy : Sl w y ys) (hm : xs.length ≤ 1048576) (hm2 : ys.length ≤ 1048576) :
    Calls Try.prog 95 #[x, y] w fun e w' => e = .returned (.bool (decide (xs = ys))) ∧ Below w.heap.size w w' := by
  by_cases hl : ys.length = xs.length
  · rcases two_rows hx hy hl with ⟨rfl, rfl, a, c, a2, c2, rfl, rfl⟩ | ⟨b, off, c, b2, off2, c2, rfl, rfl, hx, hy⟩
    · go_enter Try.func95, Try.ntmps95
      go_wp2
      refine wp_loop_rounds 1 ?_; rw [rounds_succ]
      go_wp2
      go_ret
      exact ⟨rfl, Below.refl _ _⟩
    have HL := Lib.hid hl; clear hl hm2
    go_enter Try.func95, Try.ntmps95
    go_wp2
    go_loopw [13] (fun i wr => ∃ m : Nat, m ≤ xs.length ∧ i = .int .i64 m ∧ xs.take m = ys.take m ∧ Below w.heap.size w wr)
      (fun i _ => xs.length - (intOf i).toNat)
    case atStart => exact ⟨0, Nat.zero_le _, rfl, rfl, Below.refl _ _⟩
    case round =>
      obtain ⟨m, hm', rfl, heq, hb⟩ := hrel
      by_cases hlt : m < xs.length
      · obtain ⟨u, hxm, hcx, htx⟩ := (hx.below hb).get hlt
        have hlt2 : m < ys.length := by rw [HL.out]; exact hlt
        obtain ⟨z, hym, hcy, hty⟩ := (hy.below hb).get hlt2
        have H := Lib.hid (And.intro htx (And.intro hty heq)); clear htx hty heq
        by_cases huz : u = z
        · subst huz
          go_wp2
          refine region_flow [(false, [(0, 0), (1, 0), (2, 0), (3, 1), (4, 0), (5, 0), (6, 0), (7, 1), (8, 0)])] (by kernel_rfl) ?_
          refine norm_K fun K hK => ?_
          change wpList _ _ _ [_, _, _, _, _, _, _, _, _] _ _
          go_wp2
          first | (refine hK _ _ ⟨rfl, ?_⟩; clear hK K) | refine ⟨rfl, ?_⟩
          go_wp2
          go_roundw
          case rel => exact ⟨m + 1, by omega, by go_num, by rw [H.out.1, H.out.2.1, H.out.2.2], hb.drew⟩
          case measure => simp [intOf]; omega
        · have hd : decide (xs = ys) = false := by
            refine decide_eq_false fun he => huz ?_
            have h1 : xs.take (m + 1) = ys.take (m + 1) := by rw [he]
            rw [H.out.1, H.out.2.1, H.out.2.2] at h1
            have h2 := congrArg List.getLast? (List.append_cancel_left h1)
            simpa using h2
          have hne : (u != z) = true := by simpa using huz
          have HD := Lib.hid hd; clear hd
          go_wp2
          refine region_flow [(false, [(0, 0), (1, 0), (2, 0), (3, 1), (4, 0), (5, 0), (6, 0), (7, 1), (8, 0)])] (by kernel_rfl) ?_
          refine norm_K fun K hK => ?_
          change wpList _ _ _ [_, _, _, _, _, _, _, _, _] _ _
          go_wp2
          first | (refine hK _ _ ⟨rfl, ?_⟩; clear hK K) | refine ⟨rfl, ?_⟩
          go_wp2
          go_ret
          exact ⟨by rw [HD.out]; rfl, hb.drew⟩
      · obtain rfl : m = xs.length := by omega
        rw [take_all (Nat.le_refl _), take_all (by rw [HL.out]; exact Nat.le_refl _)] at heq
        have hd : decide (xs = ys) = true := decide_eq_true heq
        have HD := Lib.hid hd; clear hd heq
        go_wp2
        go_ret
        exact ⟨by rw [HD.out]; rfl, hb⟩
  · obtain ⟨a, c, rfl, _⟩ := hx
    obtain ⟨a2, c2, rfl, _⟩ := hy
    have hd : decide (xs = ys) = false := decide_eq_false fun he => hl (by rw [he])
    have hne : ((xs.length : Int) != (ys.length : Int)) = true := by rw [bne_iff_ne]; omega
    have HD := Lib.hid hd; clear hd
    go_enter Try.func95, Try.ntmps95
    go_wp2
    go_ret
    exact ⟨by rw [HD.out]; rfl, Below.refl _ _⟩
theorem same_c {x y : Value} {xs ys : List Int} {w : World} (hx : Sl w x xs) (hy : Sl w y ys) (hm : xs.length ≤ 1048576) (hm2 : ys.length ≤ 1048576) :
    Calls Try.prog 102 #[x, y] w fun e w' => e = .returned (.bool (decide (xs = ys))) ∧ Below w.heap.size w w' := by
  by_cases hl : ys.length = xs.length
  · rcases two_rows hx hy hl with ⟨rfl, rfl, a, c, a2, c2, rfl, rfl⟩ | ⟨b, off, c, b2, off2, c2, rfl, rfl, hx, hy⟩
    · go_enter Try.func102, Try.ntmps102
      go_wp2
      refine wp_loop_rounds 1 ?_; rw [rounds_succ]
      go_wp2
      go_ret
      exact ⟨rfl, Below.refl _ _⟩
    have HL := Lib.hid hl; clear hl hm2
    go_enter Try.func102, Try.ntmps102
    go_wp2
    go_loopw [5] (fun i wr => ∃ m : Nat, m ≤ xs.length ∧ i = .int .i64 m ∧ xs.take m = ys.take m ∧ Below w.heap.size w wr)
      (fun i _ => xs.length - (intOf i).toNat)
    case atStart => exact ⟨0, Nat.zero_le _, rfl, rfl, Below.refl _ _⟩
    case round =>
      obtain ⟨m, hm', rfl, heq, hb⟩ := hrel
      by_cases hlt : m < xs.length
      · obtain ⟨u, hxm, hcx, htx⟩ := (hx.below hb).get hlt
        have hlt2 : m < ys.length := by rw [HL.out]; exact hlt
        obtain ⟨z, hym, hcy, hty⟩ := (hy.below hb).get hlt2
        have H := Lib.hid (And.intro htx (And.intro hty heq)); clear htx hty heq
        by_cases huz : u = z
        · subst huz
          go_wp2
          refine region_flow [(false, [(0, 0), (1, 0), (2, 0), (3, 1), (4, 0), (5, 0), (6, 0), (7, 1), (8, 0)])] (by kernel_rfl) ?_
          refine norm_K fun K hK => ?_
          change wpList _ _ _ [_, _, _, _, _, _, _, _, _] _ _
          go_wp2
          first | (refine hK _ _ ⟨rfl, ?_⟩; clear hK K) | refine ⟨rfl, ?_⟩
          go_wp2
          go_roundw
          case rel => exact ⟨m + 1, by omega, by go_num, by rw [H.out.1, H.out.2.1, H.out.2.2], hb.drew⟩
          case measure => simp [intOf]; omega
        · have hd : decide (xs = ys) = false := by
            refine decide_eq_false fun he => huz ?_
            have h1 : xs.take (m + 1) = ys.take (m + 1) := by rw [he]
            rw [H.out.1, H.out.2.1, H.out.2.2] at h1
            have h2 := congrArg List.getLast? (List.append_cancel_left h1)
            simpa using h2
          have hne : (u != z) = true := by simpa using huz
          have HD := Lib.hid hd; clear hd
          go_wp2
          refine region_flow [(false, [(0, 0), (1, 0), (2, 0), (3, 1), (4, 0), (5, 0), (6, 0), (7, 1), (8, 0)])] (by kernel_rfl) ?_
          refine norm_K fun K hK => ?_
          change wpList _ _ _ [_, _, _, _, _, _, _, _, _] _ _
          go_wp2
          first | (refine hK _ _ ⟨rfl, ?_⟩; clear hK K) | refine ⟨rfl, ?_⟩
          go_wp2
          go_ret
          exact ⟨by rw [HD.out]; rfl, hb.drew⟩
      · obtain rfl : m = xs.length := by omega
        rw [take_all (Nat.le_refl _), take_all (by rw [HL.out]; exact Nat.le_refl _)] at heq
        have hd : decide (xs = ys) = true := decide_eq_true heq
        have HD := Lib.hid hd; clear hd heq
        go_wp2
        go_ret
        exact ⟨by rw [HD.out]; rfl, hb⟩
  · obtain ⟨a, c, rfl, _⟩ := hx
    obtain ⟨a2, c2, rfl, _⟩ := hy
    have hd : decide (xs = ys) = false := decide_eq_false fun he => hl (by rw [he])
    have hne : ((xs.length : Int) != (ys.length : Int)) = true := by rw [bne_iff_ne]; omega
    have HD := Lib.hid hd; clear hd
    go_enter Try.func102, Try.ntmps102
    go_wp2
    go_ret
    exact ⟨by rw [HD.out]; rfl, Below.refl _ _⟩
end Go.Proofs.Ytgkceadllcjeoaa
