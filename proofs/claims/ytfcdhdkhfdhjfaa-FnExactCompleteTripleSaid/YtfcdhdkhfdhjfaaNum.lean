/-
  The walks of the functions on numbers and rows of numbers: each returns what the plain function of the same name in Base computes, and changes no memory that was there.
-/
import Derived.Test.YtfcdhdkhfdhjfaaBase
namespace Go.Proofs.Ytfcdhdkhfdhjfaa
open Go.RowKit

/-! ### impl: numbers -/
theorem inRange_c {n l h : Int} {w : World} :
    Calls Try.prog 88 #[.int .i64 n, .int .i64 l, .int .i64 h] w fun e w' => e = .returned (.bool (inR n l h)) ∧ w = w' := by
  by_cases h1 : l ≤ n
  · go_enter Try.func88, Try.ntmps88
    go_wp2
    go_ret
    exact ⟨by simp [inR, *], rfl⟩
  · go_enter Try.func88, Try.ntmps88
    go_wp2
    go_ret
    exact ⟨by simp [inR]; omega, rfl⟩
theorem isPrime_c {p : Int} {w : World} : Calls Try.prog 68 #[.int .i64 p] w fun e w' => e = .returned (.bool (prB p)) ∧ w = w' := by
  by_cases h3 : p = 3
  · subst h3; go_enter Try.func68, Try.ntmps68; go_wp2; go_ret; exact ⟨rfl, rfl⟩
  by_cases h5 : p = 5
  · subst h5; go_enter Try.func68, Try.ntmps68; go_wp2; go_ret; exact ⟨rfl, rfl⟩
  by_cases h7 : p = 7
  · subst h7; go_enter Try.func68, Try.ntmps68; go_wp2; go_ret; exact ⟨rfl, rfl⟩
  by_cases h11 : p = 11
  · subst h11; go_enter Try.func68, Try.ntmps68; go_wp2; go_ret; exact ⟨rfl, rfl⟩
  by_cases h13 : p = 13
  · subst h13; go_enter Try.func68, Try.ntmps68; go_wp2; go_ret; exact ⟨rfl, rfl⟩
  have e : prB p = false := by simp [prB, IsP, *]
  have E := Lib.hid e; clear e
  have g3 : (p == 3) = false := by simpa using h3
  have g5 : (p == 5) = false := by simpa using h5
  have g7 : (p == 7) = false := by simpa using h7
  have g11 : (p == 11) = false := by simpa using h11
  have g13 : (p == 13) = false := by simpa using h13
  go_enter Try.func68, Try.ntmps68; go_wp2; go_ret; exact ⟨by rw [E.out]; rfl, rfl⟩
theorem num_c {p n : Int} {w : World} (hp : 1 ≤ p) (hp2 : p ≤ 1000) :
    Calls Try.prog 32 #[.int .i64 p, .int .i64 n] w fun e w' => e = .returned (.int .i64 (n % p)) ∧ w = w' := by
  obtain ⟨t1, t2, t3⟩ := tmodb (n := n) hp
  have T3 := Lib.hid t3; clear t3
  go_enter Try.func32, Try.ntmps32
  go_wp2
  go_ret
  exact ⟨by simp [T3.out], rfl⟩
theorem is_c {p : Int} {x : Value} {xs : List Int} {w : World} (hp : 0 ≤ p) (hp2 : p ≤ 1000) (hx : Sl w x xs) (hm : xs.length ≤ 1048576) :
    Calls Try.prog 69 #[.int .i64 p, x] w fun e w' => e = .returned (.bool (isL p xs)) ∧ w = w' := by
  obtain ⟨a, c, rfl, rfl | ⟨b, off, rfl, hx⟩⟩ := hx
  · go_enter Try.func69, Try.ntmps69
    go_wp2
    refine wp_loop_rounds 1 ?_; rw [rounds_succ]
    go_wp2; go_ret; exact ⟨rfl, rfl⟩
  go_enter Try.func69, Try.ntmps69
  go_wp2
  go_loop [9] (fun i => ∃ k : Nat, k ≤ xs.length ∧ i = .int .i64 k ∧ isL p (xs.take k) = true) (fun i => xs.length - (intOf i).toNat)
  case atStart => exact ⟨0, Nat.zero_le _, rfl, rfl⟩
  case round =>
    obtain ⟨k, hk, rfl, hr⟩ := hrel
    by_cases hlt : k < xs.length
    · obtain ⟨z, hz, hc, ht⟩ := hx.get hlt
      have hs := isL_snoc (p := p) (x := z) (xs := xs.take k)
      have H := Lib.hid (And.intro hr (And.intro ht hs)); clear hr ht hs
      cases hb : inR z 0 (p - 1)
      · have hall : isL p xs = false := by
          have h1 : isL p (xs.take (k + 1)) = false := by rw [H.out.2.1, H.out.2.2, hb, Bool.and_false]
          cases h2 : isL p xs with
          | false => rfl
          | true =>
            have h3 : isL p (xs.take (k + 1)) = true := isL_fp.2 fun y hy => isL_fp.1 h2 y (List.mem_of_mem_take hy)
            rw [h1] at h3; cases h3
        have HA := Lib.hid hall; clear hall
        go_wp2_with (go_at_call 88; refine inRange_c.mono ?_; rintro e w' ⟨rfl, rfl⟩)
        go_ret
        exact ⟨by rw [HA.out]; rfl, rfl⟩
      · go_wp2_with (go_at_call 88; refine inRange_c.mono ?_; rintro e w' ⟨rfl, rfl⟩)
        go_round
        case rel => exact ⟨k + 1, by omega, by go_num, by rw [H.out.2.1, H.out.2.2, H.out.1, hb]; rfl⟩
        case measure => simp [intOf]; omega
    · have e : xs.take k = xs := take_all (by omega)
      rw [e] at hr
      have H := Lib.hid hr; clear hr e
      go_wp2
      go_ret
      exact ⟨by rw [H.out]; rfl, rfl⟩
theorem pow_c {p a : Int} {k : Int} {w : World} (hp : 2 ≤ p) (hp2 : p ≤ 1000) (ha1 : -1000 ≤ a) (ha2 : a ≤ 1000) (_hk : 0 ≤ k) (hk2 : k ≤ 100000) :
    Calls Try.prog 94 #[.int .i64 p, .int .i64 a, .int .i64 k] w fun e w' => e = .returned (.int .i64 (powL p a k.toNat)) ∧ w = w' := by
  obtain ⟨m, rfl⟩ := Int.eq_ofNat_of_zero_le _hk
  rw [Int.toNat_natCast]
  go_enter Try.func94, Try.ntmps94
  go_wp2
  go_loop [7, 9] (fun o i => ∃ j : Nat, j ≤ m ∧ i = .int .i64 j ∧ o = .int .i64 (powL p a j)) (fun _ i => m - (intOf i).toNat)
  case atStart => exact ⟨0, Nat.zero_le _, rfl, rfl⟩
  case round =>
    obtain ⟨j, hj, rfl, rfl⟩ := hrel
    have hb := powL_fp (a := a) hp j
    have hs : powL p a (j + 1) = powL p a j * a % p := rfl
    have HS := Lib.hid hs; clear hs
    obtain ⟨q, hq⟩ : ∃ q, q = powL p a j := ⟨_, rfl⟩
    rw [← hq] at hb ⊢
    have HQ := Lib.hid hq; clear hq
    have h2 := mulb (k := q) (y := a) (A := 1000) (B := 1000) (by omega) (by omega) ha1 ha2
    by_cases hlt : j < m
    · go_wp2_with (go_at_call 32; refine (num_c (by omega) hp2).mono ?_; rintro e w' ⟨rfl, rfl⟩)
      go_round
      case rel => exact ⟨j + 1, by omega, by go_num, by rw [HS.out, ← HQ.out]⟩
      case measure => simp [intOf]; omega
    · obtain rfl : j = m := by omega
      go_wp2
      go_ret
      exact ⟨by rw [← HQ.out]; rfl, rfl⟩
theorem inv_c {p a : Int} {w : World} (hp : 2 ≤ p) (hp2 : p ≤ 1000) (ha1 : -1000 ≤ a) (ha2 : a ≤ 1000) :
    Calls Try.prog 81 #[.int .i64 p, .int .i64 a] w fun e w' => e = .returned (.int .i64 (invL p a)) ∧ w = w' := by
  go_enter Try.func81, Try.ntmps81
  go_wp2_with (go_at_call 94; refine (pow_c hp hp2 ha1 ha2 (by omega) (by omega)).mono ?_; rintro e w' ⟨rfl, rfl⟩)
  go_ret
  exact ⟨rfl, rfl⟩
theorem dot_c {p : Int} {x y : Value} {xs ys : List Int} {w : World} (hp : 1 ≤ p) (hp2 : p ≤ 1000) (hx : Sl w x xs) (hy : Sl w y ys) (sx : Sm 1000 xs) (sy : Sm 1000 ys) (hl : ys.length = xs.length) (hm : xs.length ≤ 100000) :
    Calls Try.prog 33 #[.int .i64 p, x, y] w fun e w' => e = .returned (.int .i64 (dotL p xs ys)) ∧ w = w' := by
  obtain ⟨a, c, rfl, hx⟩ := hx
  obtain ⟨a2, c2, rfl, hy⟩ := hy
  have key : (xs = [] ∨ ∃ b off b2 off2, a = some ⟨b, off, none⟩ ∧ a2 = some ⟨b2, off2, none⟩ ∧ At w b off xs ∧ At w b2 off2 ys) := by
    rcases hx with h | ⟨b, off, h1, h2⟩
    · exact .inl h
    · rcases hy with h | ⟨b2, off2, h3, h4⟩
      · exact .inl (List.eq_nil_of_length_eq_zero (by rw [← hl, h]; rfl))
      · exact .inr ⟨b, off, b2, off2, h1, h3, h2, h4⟩
  clear hx hy
  rcases key with rfl | ⟨b, off, b2, off2, rfl, rfl, hx, hy⟩
  · have e : dotL p [] ys = 0 := by simp [dotL, dotS]
    have E := Lib.hid e; clear e
    go_enter Try.func33, Try.ntmps33
    go_wp2
    refine wp_loop_rounds 1 ?_; rw [rounds_succ]
    go_wp2_with (go_at_call 32; refine (num_c hp hp2).mono ?_; rintro e w' ⟨rfl, rfl⟩)
    go_ret
    exact ⟨by rw [E.out]; simp, rfl⟩
  have hl2 := Lib.hid hl; clear hl
  go_enter Try.func33, Try.ntmps33
  go_wp2
  go_loop [7, 12] (fun s i => ∃ k : Nat, k ≤ xs.length ∧ i = .int .i64 k ∧ s = .int .i64 (dotS (xs.take k) (ys.take k))) (fun _ i => xs.length - (intOf i).toNat)
  case atStart => exact ⟨0, Nat.zero_le _, rfl, rfl⟩
  case round =>
    obtain ⟨k, hk, rfl, rfl⟩ := hrel
    have hb := dotS_bd (by omega) (by omega) (sm_take sx k) (sm_take sy k)
    rw [List.length_take, Nat.min_eq_left hk] at hb
    obtain ⟨q, hq⟩ : ∃ q, q = dotS (xs.take k) (ys.take k) := ⟨_, rfl⟩
    rw [← hq] at hb ⊢
    by_cases hlt : k < xs.length
    · obtain ⟨z, hz, hc, ht⟩ := hx.get hlt
      obtain ⟨u, hu, hc2, ht2⟩ := hy.get (m := k) (by rw [hl2.out]; exact hlt)
      have hs := dotS_snoc (x := z) (y := u) (xs := xs.take k) (ys := ys.take k) (by have := hl2.out; simp; omega)
      have H := Lib.hid (And.intro hq (And.intro ht (And.intro ht2 hs))); clear hq ht ht2 hs
      have s1 := sx z hz
      have s2 := sy u hu
      have s3 := mulb s1.1 s1.2 s2.1 s2.2
      have hlt2 := hl2.out ▸ hlt
      go_wp2
      go_round
      case rel => exact ⟨k + 1, by omega, by go_num, by rw [H.out.2.1, H.out.2.2.1, H.out.2.2.2, ← H.out.1]⟩
      case measure => simp [intOf]; omega
    · rw [take_all (by omega), take_all (by have := hl2.out; omega)] at hq
      have H := Lib.hid hq; clear hq
      go_wp2_with (go_at_call 32; refine (num_c hp hp2).mono ?_; rintro e w' ⟨rfl, rfl⟩)
      go_ret
      exact ⟨by rw [H.out]; rfl, rfl⟩
end Go.Proofs.Ytfcdhdkhfdhjfaa
