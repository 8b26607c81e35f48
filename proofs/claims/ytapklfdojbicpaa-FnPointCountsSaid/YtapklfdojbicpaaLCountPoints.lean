/-
  How many points a plane has: the program's and the reference's, and the law.
-/
import Derived.Test.YtapklfdojbicpaaHcC
import Derived.Test.YtapklfdojbicpaaLawE
namespace Go.Proofs.Ytapklfdojbicpaa
open Go.RowKit

def sqB (p a : Int) : Bool := (List.range p.toNat).any fun x => decide ((x : Int) * x % p = a)
def geoS (p : Int) : Nat → Int
  | 0 => 0
  | k + 1 => geoS p k + p ^ k
def countL (p : Int) (st : List Int) : Int := match st with
  | [] => p * p + p + 1
  | [a] => if sqB p a = true then (p * p + p + 1) * (p * p + p + 1) else p ^ 4 + p * p + 1
  | [_, _] => (p ^ 4 + p * p + 1) * (p ^ 4 + p ^ 3 + (p * p + p + 1))
  | _ => (p ^ 8 + p ^ 4 + 1) * geoS p 9
def RCountPoints1 (p : Int) (st : List Int) : Int := chk3 p st []
def RCountPoints0 (p : Int) (st : List Int) : Int := if chk3 p st [] = 0 then countL p st else 0
theorem pw_bd {p : Int} (hp : IsP p) : ∀ k, k ≤ 9 → 1 ≤ p ^ k ∧ p ^ k ≤ 10604499373 := by
  have h : ∀ k : Fin 10, 1 ≤ p ^ k.val ∧ p ^ k.val ≤ 10604499373 := by
    rcases hp with rfl | rfl | rfl | rfl | rfl <;> decide
  exact fun k hk => h ⟨k, by omega⟩
theorem geo_bd {p : Int} (hp : IsP p) : ∀ k, k ≤ 9 → 0 ≤ geoS p k ∧ geoS p k ≤ 10604499373 := by
  have h : ∀ k : Fin 10, 0 ≤ geoS p k.val ∧ geoS p k.val ≤ 10604499373 := by
    rcases hp with rfl | rfl | rfl | rfl | rfl <;> decide
  exact fun k hk => h ⟨k, by omega⟩
theorem whole_c {p : Int} {k : Nat} {w : World} (hp : IsP p) (hk : k ≤ 9) : Calls Try.prog 15 #[.int .i64 p, .int .i64 k] w fun e w' => e = .returned (.int .i64 (p ^ k)) ∧ w = w' := by
  have hp1 := hp.lo
  have hp2 := hp.hi
  go_enter Try.func15, Try.ntmps15
  go_wp2
  go_loop [5, 7] (fun o i => ∃ (j : Nat) (q : Int), j ≤ k ∧ i = .int .i64 j ∧ o = .int .i64 q ∧ q = p ^ j) (fun _ i => k - (intOf i).toNat)
  case atStart => exact ⟨0, 1, Nat.zero_le _, rfl, rfl, (Int.pow_zero p).symm⟩
  case round =>
    obtain ⟨j, q, hj, rfl, rfl, hq⟩ := hrel
    by_cases hlt : j < k
    · have b0 := pw_bd hp j (by omega)
      have b1 := pw_bd hp (j + 1) (by omega)
      have hs : p ^ (j + 1) = q * p := by rw [Int.pow_succ, hq]
      rw [hs] at b1
      rw [← hq] at b0
      have H := Lib.hid hs; clear hs hq
      go_wp2
      go_round
      case rel => exact ⟨j + 1, q * p, by omega, by go_num, rfl, H.out.symm⟩
      case measure => simp [intOf]; omega
    · obtain rfl : j = k := by omega
      have H := Lib.hid hq; clear hq
      go_wp2
      go_ret
      exact ⟨by rw [← H.out]; rfl, rfl⟩
theorem any_snoc {f : Nat → Bool} {k : Nat} (h : (List.range k).any f = false) : (List.range (k + 1)).any f = f k := by
  rw [List.range_succ, List.any_append, h]; simp
theorem any_yes {f : Nat → Bool} {k n : Nat} (hk : k < n) (h : f k = true) : (List.range n).any f = true := by
  rw [List.any_eq_true]; exact ⟨k, List.mem_range.2 hk, h⟩
theorem root_c {p a : Int} {w : World} (hp : IsP p) : Calls Try.prog 27 #[.int .i64 p, .int .i64 a] w fun e w' => ∃ r, e = .returned (.tuple #[.int .i64 r, .bool (sqB p a)]) ∧ w = w' := by
  have hp1 := hp.lo
  have hp2 := hp.hi
  obtain ⟨n, rfl⟩ := Int.eq_ofNat_of_zero_le (show 0 ≤ p by omega)
  have hsq : sqB n a = (List.range n).any fun x => decide ((x : Int) * x % n = a) := by unfold sqB; rw [Int.toNat_natCast]
  obtain ⟨s, hs⟩ : ∃ s, s = sqB n a := ⟨_, rfl⟩
  rw [← hs] at hsq ⊢
  have HS := Lib.hid hsq; clear hsq hs
  clear hp
  go_enter Try.func27, Try.ntmps27
  go_wp2
  go_loop [8] (fun i => ∃ k : Nat, k ≤ n ∧ i = .int .i64 k ∧ ((List.range k).any fun x => decide ((x : Int) * x % n = a)) = false) (fun i => n - (intOf i).toNat)
  case atStart => exact ⟨0, Nat.zero_le _, rfl, rfl⟩
  case round =>
    obtain ⟨k, hk, rfl, hr⟩ := hrel
    by_cases hlt : k < n
    · have m1 := mulb (k := (k : Int)) (y := (k : Int)) (A := 13) (B := 13) (by omega) (by omega) (by omega) (by omega)
      have H := Lib.hid (And.intro (any_snoc hr) (@any_yes (fun x => decide ((x : Int) * x % n = a)) k n hlt)); clear hr
      by_cases he : (k : Int) * k % n = a
      · have hb : (((k : Int) * k % n) == a) = true := by rw [beq_iff_eq]; exact he
        have hst : s = true := by rw [HS.out]; exact H.out.2 (by simpa using he)
        subst hst
        clear he
        go_wp2_with (go_at_call 47; refine (num_c (by omega) (by omega)).mono ?_; rintro e w' ⟨rfl, rfl⟩; simp only [hb])
        go_ret2
        first | exact ⟨_, rfl, rfl⟩ | exact ⟨_, rfl⟩ | exact ⟨⟨_, rfl⟩, rfl⟩
      · have hb : (((k : Int) * k % n) == a) = false := by rw [beq_eq_false_iff_ne]; exact he
        have hd : decide ((k : Int) * k % n = a) = false := decide_eq_false he
        have HD := Lib.hid hd; clear hd he
        go_wp2_with (go_at_call 47; refine (num_c (by omega) (by omega)).mono ?_; rintro e w' ⟨rfl, rfl⟩; simp only [hb])
        go_round
        case rel => exact ⟨k + 1, by omega, by go_num, by rw [H.out.1]; exact HD.out⟩
        case measure => simp [intOf]; omega
    · obtain rfl : k = n := by omega
      have hst : s = false := by rw [HS.out]; exact hr
      subst hst
      clear hr
      go_wp2
      go_ret2
      first | exact ⟨_, rfl, rfl⟩ | exact ⟨_, rfl⟩ | exact ⟨⟨_, rfl⟩, rfl⟩
theorem issq_c {p a : Int} {w : World} (hp : IsP p) : Calls Try.prog 14 #[.int .i64 p, .int .i64 a] w fun e w' => e = .returned (.bool (sqB p a)) ∧ w = w' := by
  go_enter Try.func14, Try.ntmps14
  go_wp2_with (go_at_call 27; refine (root_c hp).mono ?_; rintro e w' ⟨r, rfl, rfl⟩)
  go_ret
  exact ⟨rfl, rfl⟩
theorem geo_succ {p : Int} {k : Nat} : geoS p (k + 1) = geoS p k + p ^ k := rfl
theorem pw4 {p : Int} (hp : IsP p) : 1 ≤ p ^ 4 ∧ p ^ 4 ≤ 28561 := by rcases hp with rfl | rfl | rfl | rfl | rfl <;> decide
theorem pw3 {p : Int} (hp : IsP p) : 1 ≤ p ^ 3 ∧ p ^ 3 ≤ 2197 := by rcases hp with rfl | rfl | rfl | rfl | rfl <;> decide
theorem pw8 {p : Int} (hp : IsP p) : 1 ≤ p ^ 8 ∧ p ^ 8 ≤ 815730721 := by rcases hp with rfl | rfl | rfl | rfl | rfl <;> decide
theorem pp2 {p : Int} (hp : IsP p) : 9 ≤ p * p ∧ p * p ≤ 169 := by rcases hp with rfl | rfl | rfl | rfl | rfl <;> decide
theorem ge9 {p : Int} (hp : IsP p) : 1 ≤ geoS p 9 ∧ geoS p 9 ≤ 883708281 := by rcases hp with rfl | rfl | rfl | rfl | rfl <;> decide
theorem iCountPoints_c {p0 : Int} {x0 : Value} {st0 : List Int} {w : World} (hx0 : El w x0 st0) (hm0 : st0.length ≤ 1048576) :
    Calls Try.prog 6 #[.agg #[.int .i64 p0, x0]] w fun e w' => e = .returned (.tuple #[.int .i64 (RCountPoints0 p0 st0), .int .i64 (RCountPoints1 p0 st0)]) ∧ Below w.heap.size w w' := by
  obtain ⟨a0, c0, rfl, _⟩ := id hx0.op
  have hcon := fun W s (hs : El W s st0) => chk3_c (w := W) (p := p0) (x := s) (l := .slice none 0 0) (xss := []) hs (Re.nil W) hm0 (by simp) (by simp)
  by_cases h0 : chk3 p0 st0 [] = 0
  case neg =>
    rw [show RCountPoints0 p0 st0 = 0 from if_neg h0, show RCountPoints1 p0 st0 = chk3 p0 st0 [] from rfl]
    obtain ⟨k, hk⟩ : ∃ k, k = chk3 p0 st0 [] := ⟨_, rfl⟩
    simp only [← hk] at h0 hcon ⊢
    clear hk
    have hne : (k == 0) = false := by simpa using h0
    go_enter Try.func6, Try.ntmps6
    have hb0 : Below w.heap.size w (w.alloc (.cells #[.int .i64 p0, .slice a0 st0.length c0] 26)) := (by repeat (first | exact Below.refl _ _ | apply blw_drew | apply blw_alloc | (refine blw_set ?_ (by first | omega | (simp; done) | (simp; omega)) _) | refine below_chain ?_ (by assumption)))
    have hx0 := hx0.below hb0
    have d00 : (w.alloc (.cells #[.int .i64 p0, .slice a0 st0.length c0] 26)).cell? ⟨w.heap.size, 0, none⟩ = some (.int .i64 p0) := by simp [go_sem]
    have d01 : (w.alloc (.cells #[.int .i64 p0, .slice a0 st0.length c0] 26)).cell? ⟨w.heap.size, 1, none⟩ = some (.slice a0 st0.length c0) := by simp [go_sem]
    go_wp2_with fail
    refine (hcon _ _ hx0).mono ?_; rintro e w1 ⟨rfl, hb1⟩
    have hx0 := hx0.below hb1; have d00 := kept hb1 d00; have d01 := kept hb1 d01
    go_wp2_with fail
    go_ret2
    exact ⟨rfl, (by repeat (first | exact Below.refl _ _ | apply blw_drew | apply blw_alloc | (refine blw_set ?_ (by first | omega | (simp; done) | (simp; omega)) _) | refine below_chain ?_ (by assumption)))⟩
  have hd := chk3_dok h0
  rw [show RCountPoints0 p0 st0 = countL p0 st0 from if_pos h0, show RCountPoints1 p0 st0 = 0 from h0]
  simp only [h0] at hcon
  clear h0
  have hp := hd.hp
  have hp1 := hd.hp.lo
  have hp2 := hd.hp.hi
  have hl3 := hd.hl
  have b2 := pp2 hp
  have b3 := pw3 hp
  have b4 := pw4 hp
  have b8 := pw8 hp
  have b9 := ge9 hp
  match st0, hl3 with
  | [], _ =>
    simp only [List.length_nil]
    rw [show countL p0 [] = p0 * p0 + p0 + 1 from rfl]
    go_enter Try.func6, Try.ntmps6
    have hb0 : Below w.heap.size w (w.alloc (.cells #[.int .i64 p0, .slice a0 0 c0] 26)) := (by repeat (first | exact Below.refl _ _ | apply blw_drew | apply blw_alloc | (refine blw_set ?_ (by first | omega | (simp; done) | (simp; omega)) _) | refine below_chain ?_ (by assumption)))
    have hx0 := hx0.below hb0
    have d00 : (w.alloc (.cells #[.int .i64 p0, .slice a0 0 c0] 26)).cell? ⟨w.heap.size, 0, none⟩ = some (.int .i64 p0) := by simp [go_sem]
    have d01 : (w.alloc (.cells #[.int .i64 p0, .slice a0 0 c0] 26)).cell? ⟨w.heap.size, 1, none⟩ = some (.slice a0 0 c0) := by simp [go_sem]
    go_wp2_with fail
    refine (hcon _ _ hx0).mono ?_; rintro e w1 ⟨rfl, hb1⟩
    have hx0 := hx0.below hb1; have d00 := kept hb1 d00; have d01 := kept hb1 d01
    go_wp2_with fail
    go_ret2
    exact ⟨rfl, (by repeat (first | exact Below.refl _ _ | apply blw_drew | apply blw_alloc | (refine blw_set ?_ (by first | omega | (simp; done) | (simp; omega)) _) | refine below_chain ?_ (by assumption)))⟩
  | [g], _ =>
    obtain ⟨b, off, c, e, h1, h2, hA⟩ := hx0.op1 (by simp)
    cases e
    have hc := hA.get0 (by simp)
    simp only [List.length_singleton]
    rw [show [g].getD 0 0 = g from rfl] at hc
    have m1 := mulb (k := p0 * p0 + p0 + 1) (y := p0 * p0 + p0 + 1) (A := 200) (B := 200) (by omega) (by omega) (by omega) (by omega)
    cases hsq : sqB p0 g
    · rw [show countL p0 [g] = p0 ^ 4 + p0 * p0 + 1 by show (if sqB p0 g = true then _ else _) = _; rw [hsq]; rfl]
      obtain ⟨q4, hq4⟩ : ∃ q, q = p0 ^ 4 := ⟨_, rfl⟩
      rw [← hq4] at b4 ⊢
      have H4 := Lib.hid hq4; clear hq4
      clear b3 b8 b9
      go_enter Try.func6, Try.ntmps6
      have hb0 : Below w.heap.size w (w.alloc (.cells #[.int .i64 p0, .slice (some ⟨b, off, none⟩) 1 c0] 26)) := (by repeat (first | exact Below.refl _ _ | apply blw_drew | apply blw_alloc | (refine blw_set ?_ (by first | omega | (simp; done) | (simp; omega)) _) | refine below_chain ?_ (by assumption)))
      have hx0 := hx0.below hb0; have hc := kept hb0 hc
      have d00 : (w.alloc (.cells #[.int .i64 p0, .slice (some ⟨b, off, none⟩) 1 c0] 26)).cell? ⟨w.heap.size, 0, none⟩ = some (.int .i64 p0) := by simp [go_sem]
      have d01 : (w.alloc (.cells #[.int .i64 p0, .slice (some ⟨b, off, none⟩) 1 c0] 26)).cell? ⟨w.heap.size, 1, none⟩ = some (.slice (some ⟨b, off, none⟩) 1 c0) := by simp [go_sem]
      go_wp2_with fail
      refine (hcon _ _ hx0).mono ?_; rintro e w1 ⟨rfl, hb1⟩
      have hx0 := hx0.below hb1; have hc := kept hb1 hc; have d00 := kept hb1 d00; have d01 := kept hb1 d01
      go_wp2_with fail
      refine region_flow [(false, [(0, 1), (2, 0), (3, 1), (4, 0), (5, 1), (1, 5)]), (false, [(6, 4)])] (by kernel_rfl) ?_
      refine norm_K fun K hK => ?_
      change wpList _ _ _ [_, _, _, _, _, _] _ _
      have hb2 : Below w1.heap.size w1 w1.drew := (by repeat (first | exact Below.refl _ _ | apply blw_drew | apply blw_alloc | (refine blw_set ?_ (by first | omega | (simp; done) | (simp; omega)) _) | refine below_chain ?_ (by assumption)))
      have hx0 := hx0.below hb2; have hc := kept hb2 hc; have d00 := kept hb2 d00; have d01 := kept hb2 d01
      go_wp2_with fail
      refine (dfield_c).mono ?_; rintro e w3 ⟨rfl, hb3⟩
      have hx0 := hx0.below hb3; have hc := kept hb3 hc; have d00 := kept hb3 d00; have d01 := kept hb3 d01
      go_wp2_with fail
      have hz0 : Below w1.drew.heap.size w1.drew w3 := (by repeat (first | exact Below.refl _ _ | apply blw_drew | apply blw_alloc | (refine blw_set ?_ (by first | omega | (simp; done) | (simp; omega)) _) | refine below_chain ?_ (by assumption)))
      first | (refine hK _ _ ⟨hz0, ?_⟩; clear hK K) | refine ⟨hz0, ?_⟩
      clear hz0
      refine norm_K fun K hK => ?_
      change wpList _ _ _ [_] _ _
      go_wp2_with fail
      refine (issq_c hp).mono ?_; rintro e w4 ⟨rfl, rfl⟩
      simp only [hsq]
      go_wp2_with fail
      first | (refine hK _ _ ⟨rfl, ?_⟩; clear hK K) | refine ⟨rfl, ?_⟩
      go_wp2_with fail
      refine (whole_c hp (k := 4) (by omega)).mono ?_; rintro e w5 ⟨rfl, rfl⟩
      rw [← H4.out]
      go_wp2_with fail
      go_ret2
      exact ⟨rfl, (by repeat (first | exact Below.refl _ _ | apply blw_drew | apply blw_alloc | (refine blw_set ?_ (by first | omega | (simp; done) | (simp; omega)) _) | refine below_chain ?_ (by assumption)))⟩
    · rw [show countL p0 [g] = (p0 * p0 + p0 + 1) * (p0 * p0 + p0 + 1) by show (if sqB p0 g = true then _ else _) = _; rw [hsq]; rfl]
      clear b3 b4 b8 b9
      go_enter Try.func6, Try.ntmps6
      have hb0 : Below w.heap.size w (w.alloc (.cells #[.int .i64 p0, .slice (some ⟨b, off, none⟩) 1 c0] 26)) := (by repeat (first | exact Below.refl _ _ | apply blw_drew | apply blw_alloc | (refine blw_set ?_ (by first | omega | (simp; done) | (simp; omega)) _) | refine below_chain ?_ (by assumption)))
      have hx0 := hx0.below hb0; have hc := kept hb0 hc
      have d00 : (w.alloc (.cells #[.int .i64 p0, .slice (some ⟨b, off, none⟩) 1 c0] 26)).cell? ⟨w.heap.size, 0, none⟩ = some (.int .i64 p0) := by simp [go_sem]
      have d01 : (w.alloc (.cells #[.int .i64 p0, .slice (some ⟨b, off, none⟩) 1 c0] 26)).cell? ⟨w.heap.size, 1, none⟩ = some (.slice (some ⟨b, off, none⟩) 1 c0) := by simp [go_sem]
      go_wp2_with fail
      refine (hcon _ _ hx0).mono ?_; rintro e w1 ⟨rfl, hb1⟩
      have hx0 := hx0.below hb1; have hc := kept hb1 hc; have d00 := kept hb1 d00; have d01 := kept hb1 d01
      go_wp2_with fail
      refine region_flow [(false, [(0, 1), (2, 0), (3, 1), (4, 0), (5, 1), (1, 5)]), (false, [(6, 4)])] (by kernel_rfl) ?_
      refine norm_K fun K hK => ?_
      change wpList _ _ _ [_, _, _, _, _, _] _ _
      have hb2 : Below w1.heap.size w1 w1.drew := (by repeat (first | exact Below.refl _ _ | apply blw_drew | apply blw_alloc | (refine blw_set ?_ (by first | omega | (simp; done) | (simp; omega)) _) | refine below_chain ?_ (by assumption)))
      have hx0 := hx0.below hb2; have hc := kept hb2 hc; have d00 := kept hb2 d00; have d01 := kept hb2 d01
      go_wp2_with fail
      refine (dfield_c).mono ?_; rintro e w3 ⟨rfl, hb3⟩
      have hx0 := hx0.below hb3; have hc := kept hb3 hc; have d00 := kept hb3 d00; have d01 := kept hb3 d01
      go_wp2_with fail
      have hz0 : Below w1.drew.heap.size w1.drew w3 := (by repeat (first | exact Below.refl _ _ | apply blw_drew | apply blw_alloc | (refine blw_set ?_ (by first | omega | (simp; done) | (simp; omega)) _) | refine below_chain ?_ (by assumption)))
      first | (refine hK _ _ ⟨hz0, ?_⟩; clear hK K) | refine ⟨hz0, ?_⟩
      clear hz0
      refine norm_K fun K hK => ?_
      change wpList _ _ _ [_] _ _
      go_wp2_with fail
      refine (issq_c hp).mono ?_; rintro e w4 ⟨rfl, rfl⟩
      simp only [hsq]
      go_wp2_with fail
      first | (refine hK _ _ ⟨rfl, ?_⟩; clear hK K) | refine ⟨rfl, ?_⟩
      go_wp2_with fail
      go_ret2
      exact ⟨rfl, (by repeat (first | exact Below.refl _ _ | apply blw_drew | apply blw_alloc | (refine blw_set ?_ (by first | omega | (simp; done) | (simp; omega)) _) | refine below_chain ?_ (by assumption)))⟩
  | [g, g'], _ =>
    simp only [List.length_cons, List.length_nil]
    rw [show countL p0 [g, g'] = (p0 ^ 4 + p0 * p0 + 1) * (p0 ^ 4 + p0 ^ 3 + (p0 * p0 + p0 + 1)) from rfl]
    obtain ⟨q4, hq4⟩ : ∃ q, q = p0 ^ 4 := ⟨_, rfl⟩
    obtain ⟨q3, hq3⟩ : ∃ q, q = p0 ^ 3 := ⟨_, rfl⟩
    rw [← hq4] at b4 ⊢
    rw [← hq3] at b3 ⊢
    have m1 := mulb (k := q4 + p0 * p0 + 1) (y := q4 + q3 + (p0 * p0 + p0 + 1)) (A := 100000) (B := 100000) (by omega) (by omega) (by omega) (by omega)
    have H4 := Lib.hid hq4; have H3 := Lib.hid hq3; clear hq4 hq3 b8 b9
    go_enter Try.func6, Try.ntmps6
    have hb0 : Below w.heap.size w (w.alloc (.cells #[.int .i64 p0, .slice a0 2 c0] 26)) := (by repeat (first | exact Below.refl _ _ | apply blw_drew | apply blw_alloc | (refine blw_set ?_ (by first | omega | (simp; done) | (simp; omega)) _) | refine below_chain ?_ (by assumption)))
    have hx0 := hx0.below hb0
    have d00 : (w.alloc (.cells #[.int .i64 p0, .slice a0 2 c0] 26)).cell? ⟨w.heap.size, 0, none⟩ = some (.int .i64 p0) := by simp [go_sem]
    have d01 : (w.alloc (.cells #[.int .i64 p0, .slice a0 2 c0] 26)).cell? ⟨w.heap.size, 1, none⟩ = some (.slice a0 2 c0) := by simp [go_sem]
    go_wp2_with fail
    refine (hcon _ _ hx0).mono ?_; rintro e w1 ⟨rfl, hb1⟩
    have hx0 := hx0.below hb1; have d00 := kept hb1 d00; have d01 := kept hb1 d01
    go_wp2_with fail
    refine (whole_c hp (k := 4) (by omega)).mono ?_; rintro e w2 ⟨rfl, rfl⟩
    rw [← H4.out]
    go_wp2_with fail
    refine (whole_c hp (k := 4) (by omega)).mono ?_; rintro e w3 ⟨rfl, rfl⟩
    rw [← H4.out]
    go_wp2_with fail
    refine (whole_c hp (k := 3) (by omega)).mono ?_; rintro e w4 ⟨rfl, rfl⟩
    rw [← H3.out]
    go_wp2_with fail
    go_ret2
    exact ⟨rfl, (by repeat (first | exact Below.refl _ _ | apply blw_drew | apply blw_alloc | (refine blw_set ?_ (by first | omega | (simp; done) | (simp; omega)) _) | refine below_chain ?_ (by assumption)))⟩
  | [g, g', g''], _ =>
    simp only [List.length_cons, List.length_nil]
    rw [show countL p0 [g, g', g''] = (p0 ^ 8 + p0 ^ 4 + 1) * geoS p0 9 from rfl]
    have hgb := fun k (hk : k ≤ 9) => geo_bd hp k hk
    have hpb := fun k (hk : k ≤ 9) => pw_bd hp k hk
    have HB := Lib.hid (And.intro hgb hpb); clear hgb hpb
    obtain ⟨q4, hq4⟩ : ∃ q, q = p0 ^ 4 := ⟨_, rfl⟩
    obtain ⟨q8, hq8⟩ : ∃ q, q = p0 ^ 8 := ⟨_, rfl⟩
    obtain ⟨q9, hq9⟩ : ∃ q, q = geoS p0 9 := ⟨_, rfl⟩
    rw [← hq4] at b4 ⊢
    rw [← hq8] at b8 ⊢
    rw [← hq9] at b9 ⊢
    have m1 := mulb (k := q8 + q4 + 1) (y := q9) (A := 1000000000) (B := 1000000000) (by omega) (by omega) (by omega) (by omega)
    have H4 := Lib.hid hq4; have H8 := Lib.hid hq8; have H9 := Lib.hid hq9; clear hq4 hq8 hq9 b3
    go_enter Try.func6, Try.ntmps6
    have hb0 : Below w.heap.size w (w.alloc (.cells #[.int .i64 p0, .slice a0 3 c0] 26)) := (by repeat (first | exact Below.refl _ _ | apply blw_drew | apply blw_alloc | (refine blw_set ?_ (by first | omega | (simp; done) | (simp; omega)) _) | refine below_chain ?_ (by assumption)))
    have hx0 := hx0.below hb0
    have d00 : (w.alloc (.cells #[.int .i64 p0, .slice a0 3 c0] 26)).cell? ⟨w.heap.size, 0, none⟩ = some (.int .i64 p0) := by simp [go_sem]
    have d01 : (w.alloc (.cells #[.int .i64 p0, .slice a0 3 c0] 26)).cell? ⟨w.heap.size, 1, none⟩ = some (.slice a0 3 c0) := by simp [go_sem]
    go_wp2_with fail
    refine (hcon _ _ hx0).mono ?_; rintro e w1 ⟨rfl, hb1⟩
    have hx0 := hx0.below hb1; have d00 := kept hb1 d00; have d01 := kept hb1 d01
    go_wp2
    go_loop [7, 64] (fun s i => ∃ (k : Nat) (q : Int), k ≤ 9 ∧ i = .int .i64 k ∧ s = .int .i64 q ∧ q = geoS p0 k) (fun _ i => 9 - (intOf i).toNat)
    case atStart => exact ⟨0, 0, by decide, rfl, rfl, rfl⟩
    case round =>
      obtain ⟨k, q, hk, rfl, rfl, hq⟩ := hrel
      by_cases hlt : k < 9
      · have u1 := HB.out.1 k hk
        have u2 := HB.out.2 k hk
        rw [← hq] at u1
        obtain ⟨z, hz⟩ : ∃ z, z = p0 ^ k := ⟨_, rfl⟩
        rw [← hz] at u2
        have H := Lib.hid (And.intro hq hz); clear hq hz
        go_wp2_with (go_at_call 15; refine (whole_c hp hk).mono ?_; rintro e w' ⟨rfl, rfl⟩; rw [← H.out.2])
        go_round
        case rel => exact ⟨k + 1, q + z, by omega, by go_num, rfl, by rw [geo_succ, H.out.1, H.out.2]⟩
        case measure => simp [intOf]; omega
      · obtain rfl : k = 9 := by omega
        obtain rfl : q = q9 := by rw [hq, H9.out]
        clear hq
        go_wp2_with fail
        refine (whole_c hp (k := 8) (by omega)).mono ?_; rintro e w8 ⟨rfl, rfl⟩; rw [← H8.out]
        go_wp2_with fail
        refine (whole_c hp (k := 4) (by omega)).mono ?_; rintro e w9 ⟨rfl, rfl⟩; rw [← H4.out]
        go_wp2_with fail
        go_ret2
        exact ⟨rfl, (by repeat (first | exact Below.refl _ _ | apply blw_drew | apply blw_alloc | (refine blw_set ?_ (by first | omega | (simp; done) | (simp; omega)) _) | refine below_chain ?_ (by assumption)))⟩
theorem sroot_c {p a : Int} {w : World} (hp : IsP p) : Calls Try.prog 17 #[.int .i64 p, .int .i64 a] w fun e w' => ∃ r, e = .returned (.int .i64 r) ∧ Found r (sqB p a) ∧ -1 ≤ r ∧ r ≤ 100 ∧ w = w' := by
  have hp1 := hp.lo
  have hp2 := hp.hi
  obtain ⟨n, rfl⟩ := Int.eq_ofNat_of_zero_le (show 0 ≤ p by omega)
  have hsq : sqB n a = (List.range n).any fun x => decide ((x : Int) * x % n = a) := by unfold sqB; rw [Int.toNat_natCast]
  obtain ⟨s, hs⟩ : ∃ s, s = sqB n a := ⟨_, rfl⟩
  rw [← hs] at hsq ⊢
  have HS := Lib.hid hsq; clear hsq hs
  clear hp
  go_enter Try.func17, Try.ntmps17
  go_wp2
  go_loop [5] (fun i => ∃ k : Nat, k ≤ n ∧ i = .int .i64 k ∧ ((List.range k).any fun x => decide ((x : Int) * x % n = a)) = false) (fun i => n - (intOf i).toNat)
  case atStart => exact ⟨0, Nat.zero_le _, rfl, rfl⟩
  case round =>
    obtain ⟨k, hk, rfl, hr⟩ := hrel
    by_cases hlt : k < n
    · have m1 := mulb (k := (k : Int)) (y := (k : Int)) (A := 13) (B := 13) (by omega) (by omega) (by omega) (by omega)
      have m0 : 0 ≤ (k : Int) * k := Int.mul_nonneg (by omega) (by omega)
      have H := Lib.hid (And.intro (any_snoc hr) (@any_yes (fun x => decide ((x : Int) * x % n = a)) k n hlt)); clear hr
      by_cases he : (k : Int) * k % n = a
      · have hb : (((k : Int) * k % n) == a) = true := by rw [beq_iff_eq]; exact he
        have hst : s = true := by rw [HS.out]; exact H.out.2 (by simpa using he)
        subst hst
        clear he
        go_wp2
        go_ret
        exact ⟨_, rfl, by unfold Found; simp, by omega, by omega, rfl⟩
      · have hb : (((k : Int) * k % n) == a) = false := by rw [beq_eq_false_iff_ne]; exact he
        have hd : decide ((k : Int) * k % n = a) = false := decide_eq_false he
        have HD := Lib.hid hd; clear hd he
        go_wp2
        go_round
        case rel => exact ⟨k + 1, by omega, by go_num, by rw [H.out.1]; exact HD.out⟩
        case measure => simp [intOf]; omega
    · obtain rfl : k = n := by omega
      have hst : s = false := by rw [HS.out]; exact hr
      subst hst
      clear hr
      go_wp2
      go_ret
      exact ⟨_, rfl, by unfold Found; simp, by omega, by omega, rfl⟩
theorem cnt1a {p : Int} (hp : IsP p) : p * p * (p * p) + p * p + 1 = p ^ 4 + p * p + 1 := by rcases hp with rfl | rfl | rfl | rfl | rfl <;> decide
theorem cnt2 {p : Int} (hp : IsP p) : (p * p * (p * p) + p * p + 1) * (p * p * (p * p) + p * p * p + p * p + p + 1) = (p ^ 4 + p * p + 1) * (p ^ 4 + p ^ 3 + (p * p + p + 1)) := by rcases hp with rfl | rfl | rfl | rfl | rfl <;> decide
theorem cnt3 {p : Int} (hp : IsP p) : (p * p * (p * p) * (p * p) * (p * p) + p * p * (p * p) + 1) * geoS p 9 = (p ^ 8 + p ^ 4 + 1) * geoS p 9 := by rcases hp with rfl | rfl | rfl | rfl | rfl <;> decide
theorem sCountPoints_c {p0 : Int} {x0 : Value} {st0 : List Int} {w : World} (hx0 : El w x0 st0) (hm0 : st0.length ≤ 1048576) :
    Calls Try.prog 7 #[.agg #[.int .i64 p0, x0]] w fun e w' => e = .returned (.tuple #[.int .i64 (RCountPoints0 p0 st0), .int .i64 (RCountPoints1 p0 st0)]) ∧ Below w.heap.size w w' := by
  obtain ⟨a0, c0, rfl, _⟩ := id hx0.op
  have hcon := fun W s (hs : El W s st0) => sl14_c (w := W) (p := p0) (x := s) hs hm0
  by_cases h0 : chk3 p0 st0 [] = 0
  case neg =>
    rw [show RCountPoints0 p0 st0 = 0 from if_neg h0, show RCountPoints1 p0 st0 = chk3 p0 st0 [] from rfl]
    obtain ⟨k, hk⟩ : ∃ k, k = chk3 p0 st0 [] := ⟨_, rfl⟩
    simp only [← hk] at h0 hcon ⊢
    clear hk
    have hne : (k == 0) = false := by simpa using h0
    go_enter Try.func7, Try.ntmps7
    have hb0 : Below w.heap.size w (w.alloc (.cells #[.int .i64 p0, .slice a0 st0.length c0] 26)) := (by repeat (first | exact Below.refl _ _ | apply blw_drew | apply blw_alloc | (refine blw_set ?_ (by first | omega | (simp; done) | (simp; omega)) _) | refine below_chain ?_ (by assumption)))
    have hx0 := hx0.below hb0
    have d00 : (w.alloc (.cells #[.int .i64 p0, .slice a0 st0.length c0] 26)).cell? ⟨w.heap.size, 0, none⟩ = some (.int .i64 p0) := by simp [go_sem]
    have d01 : (w.alloc (.cells #[.int .i64 p0, .slice a0 st0.length c0] 26)).cell? ⟨w.heap.size, 1, none⟩ = some (.slice a0 st0.length c0) := by simp [go_sem]
    go_wp2_with fail
    refine (hcon _ _ hx0).mono ?_; rintro e w1 ⟨rfl, hb1⟩
    have hx0 := hx0.below hb1; have d00 := kept hb1 d00; have d01 := kept hb1 d01
    go_wp2_with fail
    go_ret2
    exact ⟨rfl, (by repeat (first | exact Below.refl _ _ | apply blw_drew | apply blw_alloc | (refine blw_set ?_ (by first | omega | (simp; done) | (simp; omega)) _) | refine below_chain ?_ (by assumption)))⟩
  have hd := chk3_dok h0
  rw [show RCountPoints0 p0 st0 = countL p0 st0 from if_pos h0, show RCountPoints1 p0 st0 = 0 from h0]
  simp only [h0] at hcon
  clear h0
  have hp := hd.hp
  have hp1 := hd.hp.lo
  have hp2 := hd.hp.hi
  have hl3 := hd.hl
  have b2 := pp2 hp
  have b9 := ge9 hp
  match st0, hl3 with
  | [], _ =>
    simp only [List.length_nil]
    rw [show countL p0 [] = p0 * p0 + p0 + 1 from rfl]
    go_enter Try.func7, Try.ntmps7
    have hb0 : Below w.heap.size w (w.alloc (.cells #[.int .i64 p0, .slice a0 0 c0] 26)) := (by repeat (first | exact Below.refl _ _ | apply blw_drew | apply blw_alloc | (refine blw_set ?_ (by first | omega | (simp; done) | (simp; omega)) _) | refine below_chain ?_ (by assumption)))
    have hx0 := hx0.below hb0
    have d00 : (w.alloc (.cells #[.int .i64 p0, .slice a0 0 c0] 26)).cell? ⟨w.heap.size, 0, none⟩ = some (.int .i64 p0) := by simp [go_sem]
    have d01 : (w.alloc (.cells #[.int .i64 p0, .slice a0 0 c0] 26)).cell? ⟨w.heap.size, 1, none⟩ = some (.slice a0 0 c0) := by simp [go_sem]
    go_wp2_with fail
    refine (hcon _ _ hx0).mono ?_; rintro e w1 ⟨rfl, hb1⟩
    have hx0 := hx0.below hb1; have d00 := kept hb1 d00; have d01 := kept hb1 d01
    go_wp2_with fail
    go_ret2
    exact ⟨rfl, (by repeat (first | exact Below.refl _ _ | apply blw_drew | apply blw_alloc | (refine blw_set ?_ (by first | omega | (simp; done) | (simp; omega)) _) | refine below_chain ?_ (by assumption)))⟩
  | [g], _ =>
    obtain ⟨b, off, c, e, h1, h2, hA⟩ := hx0.op1 (by simp)
    cases e
    have hc := hA.get0 (by simp)
    simp only [List.length_singleton]
    rw [show [g].getD 0 0 = g from rfl] at hc
    have m1 := mulb (k := p0 * p0 + p0 + 1) (y := p0 * p0 + p0 + 1) (A := 200) (B := 200) (by omega) (by omega) (by omega) (by omega)
    have m2 := mulb (k := p0 * p0) (y := p0 * p0) (A := 200) (B := 200) (by omega) (by omega) (by omega) (by omega)
    cases hsq : sqB p0 g
    · rw [show countL p0 [g] = p0 ^ 4 + p0 * p0 + 1 by show (if sqB p0 g = true then _ else _) = _; rw [hsq]; rfl, ← cnt1a hp]
      go_enter Try.func7, Try.ntmps7
      have hb0 : Below w.heap.size w (w.alloc (.cells #[.int .i64 p0, .slice (some ⟨b, off, none⟩) 1 c0] 26)) := (by repeat (first | exact Below.refl _ _ | apply blw_drew | apply blw_alloc | (refine blw_set ?_ (by first | omega | (simp; done) | (simp; omega)) _) | refine below_chain ?_ (by assumption)))
      have hx0 := hx0.below hb0; have hc := kept hb0 hc
      have d00 : (w.alloc (.cells #[.int .i64 p0, .slice (some ⟨b, off, none⟩) 1 c0] 26)).cell? ⟨w.heap.size, 0, none⟩ = some (.int .i64 p0) := by simp [go_sem]
      have d01 : (w.alloc (.cells #[.int .i64 p0, .slice (some ⟨b, off, none⟩) 1 c0] 26)).cell? ⟨w.heap.size, 1, none⟩ = some (.slice (some ⟨b, off, none⟩) 1 c0) := by simp [go_sem]
      go_wp2_with fail
      refine (hcon _ _ hx0).mono ?_; rintro e w1 ⟨rfl, hb1⟩
      have hx0 := hx0.below hb1; have hc := kept hb1 hc; have d00 := kept hb1 d00; have d01 := kept hb1 d01
      go_wp2_with fail
      refine (sroot_c hp).mono ?_; rintro e w2 ⟨r, rfl, hr, hr1, hr2, rfl⟩
      rw [hsq] at hr
      have hr3 : decide (0 ≤ r) = false := hr
      clear hr
      go_wp2_with fail
      go_ret2
      exact ⟨rfl, (by repeat (first | exact Below.refl _ _ | apply blw_drew | apply blw_alloc | (refine blw_set ?_ (by first | omega | (simp; done) | (simp; omega)) _) | refine below_chain ?_ (by assumption)))⟩
    · rw [show countL p0 [g] = (p0 * p0 + p0 + 1) * (p0 * p0 + p0 + 1) by show (if sqB p0 g = true then _ else _) = _; rw [hsq]; rfl]
      go_enter Try.func7, Try.ntmps7
      have hb0 : Below w.heap.size w (w.alloc (.cells #[.int .i64 p0, .slice (some ⟨b, off, none⟩) 1 c0] 26)) := (by repeat (first | exact Below.refl _ _ | apply blw_drew | apply blw_alloc | (refine blw_set ?_ (by first | omega | (simp; done) | (simp; omega)) _) | refine below_chain ?_ (by assumption)))
      have hx0 := hx0.below hb0; have hc := kept hb0 hc
      have d00 : (w.alloc (.cells #[.int .i64 p0, .slice (some ⟨b, off, none⟩) 1 c0] 26)).cell? ⟨w.heap.size, 0, none⟩ = some (.int .i64 p0) := by simp [go_sem]
      have d01 : (w.alloc (.cells #[.int .i64 p0, .slice (some ⟨b, off, none⟩) 1 c0] 26)).cell? ⟨w.heap.size, 1, none⟩ = some (.slice (some ⟨b, off, none⟩) 1 c0) := by simp [go_sem]
      go_wp2_with fail
      refine (hcon _ _ hx0).mono ?_; rintro e w1 ⟨rfl, hb1⟩
      have hx0 := hx0.below hb1; have hc := kept hb1 hc; have d00 := kept hb1 d00; have d01 := kept hb1 d01
      go_wp2_with fail
      refine (sroot_c hp).mono ?_; rintro e w2 ⟨r, rfl, hr, hr1, hr2, rfl⟩
      rw [hsq] at hr
      have hr3 : decide (0 ≤ r) = true := hr
      clear hr
      go_wp2_with fail
      go_ret2
      exact ⟨rfl, (by repeat (first | exact Below.refl _ _ | apply blw_drew | apply blw_alloc | (refine blw_set ?_ (by first | omega | (simp; done) | (simp; omega)) _) | refine below_chain ?_ (by assumption)))⟩
  | [g, g'], _ =>
    simp only [List.length_cons, List.length_nil]
    rw [show countL p0 [g, g'] = (p0 ^ 4 + p0 * p0 + 1) * (p0 ^ 4 + p0 ^ 3 + (p0 * p0 + p0 + 1)) from rfl, ← cnt2 hp]
    have m2 := mulb (k := p0 * p0) (y := p0 * p0) (A := 169) (B := 169) (by omega) (by omega) (by omega) (by omega)
    have m3 := mulb (k := p0 * p0) (y := p0) (A := 169) (B := 13) (by omega) (by omega) (by omega) (by omega)
    have m1 := mulb (k := p0 * p0 * (p0 * p0) + p0 * p0 + 1) (y := p0 * p0 * (p0 * p0) + p0 * p0 * p0 + p0 * p0 + p0 + 1) (A := 100000) (B := 100000) (by omega) (by omega) (by omega) (by omega)
    go_enter Try.func7, Try.ntmps7
    have hb0 : Below w.heap.size w (w.alloc (.cells #[.int .i64 p0, .slice a0 2 c0] 26)) := (by repeat (first | exact Below.refl _ _ | apply blw_drew | apply blw_alloc | (refine blw_set ?_ (by first | omega | (simp; done) | (simp; omega)) _) | refine below_chain ?_ (by assumption)))
    have hx0 := hx0.below hb0
    have d00 : (w.alloc (.cells #[.int .i64 p0, .slice a0 2 c0] 26)).cell? ⟨w.heap.size, 0, none⟩ = some (.int .i64 p0) := by simp [go_sem]
    have d01 : (w.alloc (.cells #[.int .i64 p0, .slice a0 2 c0] 26)).cell? ⟨w.heap.size, 1, none⟩ = some (.slice a0 2 c0) := by simp [go_sem]
    go_wp2_with fail
    refine (hcon _ _ hx0).mono ?_; rintro e w1 ⟨rfl, hb1⟩
    have hx0 := hx0.below hb1; have d00 := kept hb1 d00; have d01 := kept hb1 d01
    go_wp2_with fail
    go_ret2
    exact ⟨rfl, (by repeat (first | exact Below.refl _ _ | apply blw_drew | apply blw_alloc | (refine blw_set ?_ (by first | omega | (simp; done) | (simp; omega)) _) | refine below_chain ?_ (by assumption)))⟩
  | [g, g', g''], _ =>
    simp only [List.length_cons, List.length_nil]
    rw [show countL p0 [g, g', g''] = (p0 ^ 8 + p0 ^ 4 + 1) * geoS p0 9 from rfl, ← cnt3 hp]
    have hgb := fun k (hk : k ≤ 9) => geo_bd hp k hk
    have hpb := fun k (hk : k ≤ 9) => pw_bd hp k hk
    have HB := Lib.hid (And.intro hgb hpb); clear hgb hpb
    have m2 := mulb (k := p0 * p0) (y := p0 * p0) (A := 169) (B := 169) (by omega) (by omega) (by omega) (by omega)
    have m3 := mulb (k := p0 * p0 * (p0 * p0)) (y := p0 * p0) (A := 28561) (B := 169) (by omega) (by omega) (by omega) (by omega)
    have m4 := mulb (k := p0 * p0 * (p0 * p0) * (p0 * p0)) (y := p0 * p0) (A := 4826809) (B := 169) (by omega) (by omega) (by omega) (by omega)
    obtain ⟨q9, hq9⟩ : ∃ q, q = geoS p0 9 := ⟨_, rfl⟩
    rw [← hq9] at b9 ⊢
    have m1 := mulb (k := p0 * p0 * (p0 * p0) * (p0 * p0) * (p0 * p0) + p0 * p0 * (p0 * p0) + 1) (y := q9) (A := 1000000000) (B := 1000000000) (by omega) (by omega) (by omega) (by omega)
    have H9 := Lib.hid hq9; clear hq9
    go_enter Try.func7, Try.ntmps7
    have hb0 : Below w.heap.size w (w.alloc (.cells #[.int .i64 p0, .slice a0 3 c0] 26)) := (by repeat (first | exact Below.refl _ _ | apply blw_drew | apply blw_alloc | (refine blw_set ?_ (by first | omega | (simp; done) | (simp; omega)) _) | refine below_chain ?_ (by assumption)))
    have hx0 := hx0.below hb0
    have d00 : (w.alloc (.cells #[.int .i64 p0, .slice a0 3 c0] 26)).cell? ⟨w.heap.size, 0, none⟩ = some (.int .i64 p0) := by simp [go_sem]
    have d01 : (w.alloc (.cells #[.int .i64 p0, .slice a0 3 c0] 26)).cell? ⟨w.heap.size, 1, none⟩ = some (.slice a0 3 c0) := by simp [go_sem]
    go_wp2_with fail
    refine (hcon _ _ hx0).mono ?_; rintro e w1 ⟨rfl, hb1⟩
    have hx0 := hx0.below hb1; have d00 := kept hb1 d00; have d01 := kept hb1 d01
    go_wp2
    go_loop [7, 8, 9] (fun s t i => ∃ (k : Nat) (q z : Int), k ≤ 9 ∧ i = .int .i64 k ∧ s = .int .i64 q ∧ q = geoS p0 k ∧ t = .int .i64 z ∧ z = p0 ^ k) (fun _ _ i => 9 - (intOf i).toNat)
    case atStart => exact ⟨0, 0, 1, by decide, rfl, rfl, rfl, rfl, (Int.pow_zero p0).symm⟩
    case round =>
      obtain ⟨k, q, z, hk, rfl, rfl, hq, rfl, hz⟩ := hrel
      have u1 := HB.out.1 k hk
      have u2 := HB.out.2 k hk
      rw [← hq] at u1
      rw [← hz] at u2
      by_cases hlt : k < 9
      · have m5 := mulb (k := z) (y := p0) (A := 10604499373) (B := 13) (by omega) (by omega) (by omega) (by omega)
        have hlt2 : decide ((k : Int) ≤ 8) = true := by simp; omega
        have H := Lib.hid (And.intro hq hz); clear hq hz
        go_wp2
        go_round
        case rel => exact ⟨k + 1, q + z, z * p0, by omega, by go_num, rfl, by rw [geo_succ, H.out.1, H.out.2], rfl, by rw [Int.pow_succ, H.out.2]⟩
        case measure => simp [intOf]; omega
      · obtain rfl : k = 9 := by omega
        obtain rfl : q = q9 := by rw [hq, H9.out]
        clear hq hz
        go_wp2
        go_ret2
        exact ⟨rfl, (by repeat (first | exact Below.refl _ _ | apply blw_drew | apply blw_alloc | (refine blw_set ?_ (by first | omega | (simp; done) | (simp; omega)) _) | refine below_chain ?_ (by assumption)))⟩

end Go.Proofs.Ytapklfdojbicpaa
