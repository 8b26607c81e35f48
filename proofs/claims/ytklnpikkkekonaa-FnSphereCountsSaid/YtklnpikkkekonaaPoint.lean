/-
  Points, finite vectors, and inverses, the program's and the reference's.
-/
import Derived.Test.YtklnpikkkekonaaPair
namespace Go.Proofs.Ytklnpikkkekonaa
open Go.RowKit

theorem inv_all : ∀ p ∈ [3, 5, 7, 11, 13], ∀ a ∈ List.range p, a ≠ 0 → 1 ≤ invL (p : Nat) (a : Nat) ∧ (a : Int) * invL (p : Nat) (a : Nat) % (p : Nat) = 1 ∧ ∀ b ∈ List.range p, 1 ≤ b → (b : Int) < invL (p : Nat) (a : Nat) → (a : Int) * b % (p : Nat) ≠ 1 := by decide +kernel
theorem inv_tab {p a : Int} (hp : IsP p) (h1 : 1 ≤ a) (h2 : a < p) : 1 ≤ invL p a ∧ a * invL p a % p = 1 ∧ ∀ b, 1 ≤ b → b < invL p a → a * b % p ≠ 1 := by
  obtain ⟨n, rfl⟩ := Int.eq_ofNat_of_zero_le (show 0 ≤ p by have := hp.lo; omega)
  obtain ⟨m, rfl⟩ := Int.eq_ofNat_of_zero_le (show 0 ≤ a by omega)
  have hi := (invL_fp (p := (n : Int)) (a := (m : Int)) (by have := hp.lo; omega)).2
  obtain ⟨k1, k2, k3⟩ := inv_all n (by unfold IsP at hp; simp; omega) m (by simp; omega) (by omega)
  refine ⟨k1, k2, fun b hb1 hb2 => ?_⟩
  obtain ⟨j, rfl⟩ := Int.eq_ofNat_of_zero_le (show 0 ≤ b by omega)
  exact k3 j (by simp; omega) (by omega) hb2
theorem sinv_c {p a : Int} {w : World} (hp : IsP p) (h1 : 1 ≤ a) (h2 : a < p) :
    Calls Try.prog 55 #[.int .i64 p, .int .i64 a] w fun e w' => e = .returned (.int .i64 (invL p a)) ∧ w = w' := by
  obtain ⟨t1, t2, t3⟩ := inv_tab hp h1 h2
  have hi := (invL_fp (p := p) (a := a) (by have := hp.lo; omega)).2
  have hp1 := hp.lo
  have hp2 := hp.hi
  obtain ⟨q, hq⟩ : ∃ q, q = invL p a := ⟨_, rfl⟩
  rw [← hq] at t1 t2 t3 hi ⊢
  clear hq
  have T2 := Lib.hid t2; have T3 := Lib.hid t3; clear t2 t3 hp
  go_enter Try.func55, Try.ntmps55
  go_wp2
  go_loop [5] (fun i => ∃ b : Int, 1 ≤ b ∧ b ≤ q ∧ i = .int .i64 b) (fun i => (q - intOf i).toNat)
  case atStart => exact ⟨1, by omega, t1, rfl⟩
  case round =>
    obtain ⟨b, hb1, hb2, rfl⟩ := hrel
    have hm := mulb (A := 13) (B := 13) (k := a) (y := b) (by omega) (by omega) (by omega) (by omega)
    have h0 : 0 ≤ a * b := Int.mul_nonneg (by omega) (by omega)
    by_cases hlt : b < q
    · have e1 : (a * b % p != 1) = true := by
        rw [bne_iff_ne]; exact T3.out b hb1 hlt
      go_wp2
      go_round
      case rel => exact ⟨b + 1, by omega, by omega, by go_num⟩
      case measure => simp [intOf]; omega
    · obtain rfl : b = q := by omega
      have e1 : (a * b % p != 1) = false := by
        rw [T2.out]; rfl
      go_wp2
      go_ret
      exact ⟨rfl, rfl⟩
theorem zw_scale {p k : Int} : ∀ {xs ys : List Int}, plusL p xs (scaleL p ys k) 1 = plusL p xs ys (k % p)
  | [], _ => by simp [plusL]
  | _ :: _, [] => by simp [plusL, scaleL]
  | x :: xs, y :: ys => by
    have h := zw_scale (p := p) (k := k) (xs := xs) (ys := ys)
    simp only [plusL, scaleL, List.map_cons, List.zipWith_cons_cons] at h ⊢
    rw [h]
    congr 1
    rw [Int.one_mul, Int.add_emod, Int.emod_emod, ← Int.add_emod, Int.add_emod x (k % p * y), Int.mul_emod (k % p), Int.emod_emod, ← Int.mul_emod, ← Int.add_emod, Int.mul_comm]
def hN (p n : Int) : Int := n * invL p 2 % p
theorem hN_fp {p n : Int} (hp : 1 ≤ p) : 0 ≤ hN p n ∧ hN p n < p := mod_fp hp
theorem hN_c {p n : Int} {w : World} (hp : 2 ≤ p) (hp2 : p ≤ 1000) (hn1 : -1000 ≤ n) (hn2 : n ≤ 1000) :
    Calls Try.prog 46 #[.int .i64 p, .int .i64 n] w fun e w' => e = .returned (.int .i64 (hN p n)) ∧ w = w' := half_c hp hp2 hn1 hn2
theorem hN2_fp {p n m : Int} (hp : 1 ≤ p) : Fp p [hN p n, hN p m] := fun x hx => by
  have h1 := hN_fp (p := p) (n := n) hp
  have h2 := hN_fp (p := p) (n := m) hp
  simp at hx
  rcases hx with rfl | rfl <;> assumption
/-- A point's vector. -/
def pointL (p : Int) (sq v : List Int) : List Int := plusL p (v ++ [hN p (-1), hN p 1]) (infL sq.length) (hN p (pairL p sq v v))
theorem pointL_len {p : Int} {sq v : List Int} (h : v.length = sq.length) : (pointL p sq v).length = sq.length + 2 := by
  unfold pointL; rw [plusL_len (by simp [infL, h])]; simp [h]
theorem pointL_fp {p : Int} {sq v : List Int} (hp : 1 ≤ p) : Fp p (pointL p sq v) := plusL_fp hp
theorem infL_fp {p : Int} {n : Nat} (hp : 3 ≤ p) : Fp p (infL n) := fun x hx => by
  unfold infL at hx
  rcases List.mem_append.1 hx with h | h
  · have := List.eq_of_mem_replicate h; omega
  · simp at h; omega
theorem extL_fp {p : Int} {sq : List Int} (hp : 3 ≤ p) (h : Fp p sq) : Fp p (extL p sq) := h.app fun x hx => by simp at hx; omega
theorem point_c {p0 : Int} {x0 x1 : Value} {sq0 xs1 : List Int} {w : World} (hs : isSp p0 sq0 = true) (hx0 : Sl w x0 sq0) (hx1 : Sl w x1 xs1) (hv : isV p0 sq0 xs1 = true) :
    Calls Try.prog 27 #[.agg #[.int .i64 p0, x0], x1] w fun e w' => ∃ v, e = .returned v ∧ FrI w' w.heap.size v (pointL p0 sq0 xs1) ∧ Below w.heap.size w w' := by
  obtain ⟨hp, n1, n2, hf⟩ := isSp_iff.1 hs
  obtain ⟨l1, f1⟩ := isV_iff.1 hv
  have hp1 := hp.lo
  have hp2 := hp.hi
  obtain ⟨a0, c0, rfl, _⟩ := id hx0
  have m1 : 1 ≤ xs1.length := by omega
  have m2 : xs1.length ≤ 6 := by omega
  have L1 := Lib.hid l1; clear l1
  have hq := pairL_fp (p := p0) (sq := sq0) (v := xs1) (w := xs1) (by omega)
  have FPH : Fp p0 (xs1 ++ [hN p0 (-1), hN p0 1]) := f1.app (hN2_fp (by omega))
  go_enter Try.func27, Try.ntmps27
  have hb0 : Below w.heap.size w (w.alloc (.cells #[.int .i64 p0, .slice a0 sq0.length c0] 26)) := (by repeat (first | exact Below.refl _ _ | apply blw_drew | apply blw_alloc | (refine blw_set ?_ (by first | omega | (simp; done) | (simp; omega)) _) | refine below_chain ?_ (by assumption)))
  have hx0 := hx0.below hb0; have hx1 := hx1.below hb0
  have d00 : (w.alloc (.cells #[.int .i64 p0, .slice a0 sq0.length c0] 26)).cell? ⟨w.heap.size, 0, none⟩ = some (.int .i64 p0) := by simp [go_sem]
  have d01 : (w.alloc (.cells #[.int .i64 p0, .slice a0 sq0.length c0] 26)).cell? ⟨w.heap.size, 1, none⟩ = some (.slice a0 sq0.length c0) := by simp [go_sem]
  go_wp2_with fail
  refine (spfield_c).mono ?_; rintro e w1 ⟨rfl, hb1⟩
  have hx0 := hx0.below hb1; have hx1 := hx1.below hb1; have d00 := kept hb1 d00; have d01 := kept hb1 d01
  have hx0_ := hx0
  have hx1_ := hx1
  have d00_ := d00
  have d01_ := d01
  go_wp2_with fail
  refine (clone_c hx1 (by omega) (by omega)).mono ?_; rintro e w2 ⟨v, rfl, ⟨g, cap, rfl, ho⟩, hb2⟩
  have hx0 := hx0.below hb2; have hx1 := hx1.below hb2; have d00 := kept hb2 d00; have d01 := kept hb2 d01
  go_wp2_with fail
  refine (hN_c (by omega) (by omega) (by omega) (by omega)).mono ?_; rintro e w3 ⟨rfl, rfl⟩
  go_wp2_with fail
  refine (hN_c (by omega) (by omega) (by omega) (by omega)).mono ?_; rintro e w4 ⟨rfl, rfl⟩
  have ht := OwnI.lit (w := w2) (Nat.le_refl _) [hN p0 (-1), hN p0 1] (by simp)
  have hbl : Below w2.heap.size w2 (w2.alloc (.cells #[.int .i64 (hN p0 (-1)), .int .i64 (hN p0 1)] 2)) := (by repeat (first | exact Below.refl _ _ | apply blw_drew | apply blw_alloc | (refine blw_set ?_ (by first | omega | (simp; done) | (simp; omega)) _) | refine below_chain ?_ (by assumption)))
  have hb12 : Below w1.heap.size w1 (w2.alloc (.cells #[.int .i64 (hN p0 (-1)), .int .i64 (hN p0 1)] 2)) := (by repeat (first | exact Below.refl _ _ | apply blw_drew | apply blw_alloc | (refine blw_set ?_ (by first | omega | (simp; done) | (simp; omega)) _) | refine below_chain ?_ (by assumption)))
  go_wp2_with (at_builtin; refine app_int rfl _ _ rfl (w2.alloc (.cells #[.int .i64 (hN p0 (-1)), .int .i64 (hN p0 1)] 2)) w1.heap.size g xs1.length cap xs1 rfl w2.heap.size 0 2 2 [hN p0 (-1), hN p0 1] rfl (ho.alloc _) (Nat.le_trans hb2.size hbl.size) ht.at rfl (by decide) (by omega) ?_; intro g' cap' w5 hown hg' hgg)
  have hb5 := blw_grown hb12 hg' ho.lt.1
  clear hb12 hbl
  have hx0 := hx0_.below hb5
  have hx1 := hx1_.below hb5
  have d00 := kept hb5 d00_
  have d01 := kept hb5 d01_
  go_wp2_with fail
  refine region_flow [(false, [(0, 0), (1, 0), (2, 1), (4, 0), (5, 1), (6, 0), (3, 5)]), (false, [(7, 4), (8, 4), (9, 4), (10, 0)])] (by kernel_rfl) ?_
  refine norm_K fun K hK => ?_
  change wpList _ _ _ [_, _, _, _, _, _, _] _ _
  have hb6 : Below w5.heap.size w5 w5.drew := (by repeat (first | exact Below.refl _ _ | apply blw_drew | apply blw_alloc | (refine blw_set ?_ (by first | omega | (simp; done) | (simp; omega)) _) | refine below_chain ?_ (by assumption)))
  have hx0 := hx0.below hb6; have hx1 := hx1.below hb6; have d00 := kept hb6 d00; have d01 := kept hb6 d01; have hown := hown.below hb6
  go_wp2_with fail
  refine (inf_c hx0 hs).mono ?_; rintro e w7 ⟨y, rfl, hy, hb7⟩
  have hx0 := hx0.below hb7; have hx1 := hx1.below hb7; have d00 := kept hb7 d00; have d01 := kept hb7 d01; have hown := hown.below hb7
  go_wp2_with fail
  have hz0 : Below w5.drew.heap.size w5.drew w7 := (by repeat (first | exact Below.refl _ _ | apply blw_drew | apply blw_alloc | (refine blw_set ?_ (by first | omega | (simp; done) | (simp; omega)) _) | refine below_chain ?_ (by assumption)))
  first | (refine hK _ _ ⟨hz0, ?_⟩; clear hK K) | refine ⟨hz0, ?_⟩
  clear hz0
  refine norm_K fun K hK => ?_
  change wpList _ _ _ [_, _, _, _] _ _
  go_wp2_with fail
  refine (norm_c (by omega) (by omega) hx0 hx1 (hf.sm (by omega) (by omega)) (f1.sm (by omega) (by omega)) L1.out.symm (by omega) (by omega)).mono ?_; rintro e w8 ⟨rfl, hb8⟩
  have hx0 := hx0.below hb8; have hx1 := hx1.below hb8; have d00 := kept hb8 d00; have d01 := kept hb8 d01; have hown := hown.below hb8; have hy := hy.below hb8
  go_wp2_with fail
  refine (hN_c (by omega) (by omega) (by omega) (by omega)).mono ?_; rintro e w9 ⟨rfl, rfl⟩
  go_wp2_with fail
  refine (plus_c (by omega) (by omega) (by have := hN_fp (p := p0) (n := pairL p0 sq0 xs1 xs1) (by omega); omega) (by have := hN_fp (p := p0) (n := pairL p0 sq0 xs1 xs1) (by omega); omega) hown.sl hy.sl (FPH.sm (by omega) (by omega)) ((infL_fp hp1).sm (by omega) (by omega)) (by simp [infL, L1.out]) (by simp; omega)).mono ?_; rintro e w10 ⟨z, rfl, hz, hb10⟩
  have hx0 := hx0.below hb10; have hx1 := hx1.below hb10; have d00 := kept hb10 d00; have d01 := kept hb10 d01; have hown := hown.below hb10; have hy := hy.below hb10
  go_wp2_with fail
  first | (refine hK _ _ ⟨rfl, ?_⟩; clear hK K) | refine ⟨rfl, ?_⟩
  go_wp2_with fail
  go_ret
  exact ⟨_, rfl, hz.more (below_le (by repeat (first | exact Below.refl _ _ | apply blw_drew | apply blw_alloc | (refine blw_set ?_ (by first | omega | (simp; done) | (simp; omega)) _) | refine below_chain ?_ (by assumption)))), (by repeat (first | exact Below.refl _ _ | apply blw_drew | apply blw_alloc | (refine blw_set ?_ (by first | omega | (simp; done) | (simp; omega)) _) | refine below_chain ?_ (by assumption)))⟩
end Go.Proofs.Ytklnpikkkekonaa
