/-
  Inverses of numbers, and differences of rows of numbers.
-/
import Derived.Test.YtmplpoccalccoaaJaf
namespace Go.Proofs.Ytmplpoccalccoaa
open Go.RowKit

theorem inv_all : ∀ p ∈ [3, 5, 7, 11, 13], ∀ a ∈ List.range p, a ≠ 0 → 1 ≤ invL (p : Nat) (a : Nat) ∧ (a : Int) * invL (p : Nat) (a : Nat) % (p : Nat) = 1 ∧ ∀ b ∈ List.range p, 1 ≤ b → (b : Int) < invL (p : Nat) (a : Nat) → (a : Int) * b % (p : Nat) ≠ 1 := by decide +kernel
theorem inv_tab {p a : Int} (hp : IsP p) (h1 : 1 ≤ a) (h2 : a < p) : 1 ≤ invL p a ∧ a * invL p a % p = 1 ∧ ∀ b, 1 ≤ b → b < invL p a → a * b % p ≠ 1 := by
  obtain ⟨n, rfl⟩ := Int.eq_ofNat_of_zero_le (show 0 ≤ p by have := hp.lo; omega)
  obtain ⟨m, rfl⟩ := Int.eq_ofNat_of_zero_le (show 0 ≤ a by omega)
  have hi := (invL_fp (p := (n : Int)) (a := (m : Int)) (by have := hp.lo; omega)).2
  obtain ⟨k1, k2, k3⟩ := inv_all n (by unfold IsP at hp; simp; omega) m (by simp; omega) (by omega)
  refine ⟨k1, k2, fun b hb1 hb2 => ?_⟩
  obtain ⟨j, rfl⟩ := Int.eq_ofNat_of_zero_le (show 0 ≤ b by omega)
  exact k3 j (by simp; omega) (by omega) hb2
theorem sinv_c {p a : Int} {w : World} (hp : IsP p) (h1 : 1 ≤ a) (h2 : a < p) :
    Calls Try.prog 143 #[.int .i64 p, .int .i64 a] w fun e w' => e = .returned (.int .i64 (invL p a)) ∧ w = w' := by
  obtain ⟨t1, t2, t3⟩ := inv_tab hp h1 h2
  have hi := (invL_fp (p := p) (a := a) (by have := hp.lo; omega)).2
  have hp1 := hp.lo
  have hp2 := hp.hi
  obtain ⟨q, hq⟩ : ∃ q, q = invL p a := ⟨_, rfl⟩
  rw [← hq] at t1 t2 t3 hi ⊢
  clear hq
  have T2 := Lib.hid t2; have T3 := Lib.hid t3; clear t2 t3 hp
  go_enter Try.func143, Try.ntmps143
  go_wp2
  go_loop [5] (fun i => ∃ b : Int, 1 ≤ b ∧ b ≤ q ∧ i = .int .i64 b) (fun i => (q - intOf i).toNat)
  case atStart => exact ⟨1, by omega, t1, rfl⟩
  case round =>
    obtain ⟨b, hb1, hb2, rfl⟩ := hrel
    have hm := mulb (A := 13) (B := 13) (k := a) (y := b) (by omega) (by omega) (by omega) (by omega)
    have h0 : 0 ≤ a * b := Int.mul_nonneg (by omega) (by omega)
    by_cases hlt : b < q
    · have e1 : (a * b % p != 1) = true := by
        rw [bne_iff_ne]; exact T3.out b hb1 hlt
      go_wp2
      go_round
      case rel => exact ⟨b + 1, by omega, by omega, by go_num⟩
      case measure => simp [intOf]; omega
    · obtain rfl : b = q := by omega
      have e1 : (a * b % p != 1) = false := by
        rw [T2.out]; rfl
      go_wp2
      go_ret
      exact ⟨rfl, rfl⟩
theorem below_le {a b : World} (h : Below a.heap.size a b) : a.heap.size ≤ b.heap.size := h.size
theorem plusL_cong {p k k' : Int} (h : k % p = k' % p) : ∀ {xs ys : List Int}, plusL p xs ys k = plusL p xs ys k'
  | [], _ => by simp [plusL]
  | _ :: _, [] => by simp [plusL]
  | x :: xs, y :: ys => by
    have hr := plusL_cong h (xs := xs) (ys := ys)
    simp only [plusL, List.zipWith_cons_cons] at hr ⊢
    rw [hr, Int.add_emod, Int.mul_emod, h, ← Int.mul_emod, ← Int.add_emod]
theorem zw_scale2 {p k m : Int} : ∀ {xs ys : List Int}, plusL p xs (scaleL p ys k) m = plusL p xs ys (k * m)
  | [], _ => by simp [plusL]
  | _ :: _, [] => by simp [plusL, scaleL]
  | x :: xs, y :: ys => by
    have hr := zw_scale2 (p := p) (k := k) (m := m) (xs := xs) (ys := ys)
    simp only [plusL, scaleL, List.map_cons, List.zipWith_cons_cons] at hr ⊢
    rw [hr]
    congr 1
    rw [Int.add_emod, Int.mul_emod m, Int.emod_emod, ← Int.mul_emod, ← Int.add_emod]
    congr 2
    rw [Int.mul_comm y k, ← Int.mul_assoc, Int.mul_comm m k]
theorem sminus_c {p : Int} {x y : Value} {xs ys : List Int} {w : World} (hp : 1 ≤ p) (hp2 : p ≤ 1000)
    (hx : Sl w x xs) (hy : Sl w y ys) (sx : Sm 1000000 xs) (sy : Sm 1000000 ys) (hl : ys.length = xs.length) (hm : xs.length ≤ 1000000) :
    Calls Try.prog 144 #[.int .i64 p, x, y] w fun e w' => ∃ v, e = .returned v ∧ FrI w' w.heap.size v (plusL p xs ys (p - 1)) ∧ Below w.heap.size w w' := by
  have HL := Lib.hid hl; clear hl
  have hm2 : ys.length ≤ 1000000 := by rw [HL.out]; exact hm
  have hx1 := hx
  go_enter Try.func144, Try.ntmps144
  go_wp2_with fail
  refine (sscale_c hp hp2 (by omega) (by omega) hy sy hm2).mono ?_; rintro e w21 ⟨z, rfl, hz, hb21⟩
  have hx := hx.below hb21
  go_wp2_with fail
  refine (sadd_c hp hp2 hx hz.sl sx ((scaleL_fp hp).sm (by omega) (by omega)) (by rw [scaleL_len]; exact HL.out) hm).mono ?_; rintro e w22 ⟨t, rfl, ht, hb22⟩
  have hx := hx.below hb22; have hz := hz.below hb22
  go_wp2_with fail
  go_ret
  refine ⟨_, rfl, ?_, (by repeat (first | exact Below.refl _ _ | apply blw_drew | apply blw_alloc | (refine blw_set ?_ (by first | omega | (simp; done) | (simp; omega)) _) | refine below_chain ?_ (by assumption)))⟩
  rw [zw_scale2, Int.mul_one] at ht
  exact ht.more (below_le (by repeat (first | exact Below.refl _ _ | apply blw_drew | apply blw_alloc | (refine blw_set ?_ (by first | omega | (simp; done) | (simp; omega)) _) | refine below_chain ?_ (by assumption))))
end Go.Proofs.Ytmplpoccalccoaa
