/- Texts joined for a claim: Inv, DbA. -/
import Derived.Test.YtfcdhdkhfdhjfaaJag
/-
  Inverses of numbers, and differences of rows of numbers.
-/
namespace Go.Proofs.Ytfcdhdkhfdhjfaa
open Go.RowKit

theorem inv_all : ∀ p ∈ [3, 5, 7, 11, 13], ∀ a ∈ List.range p, a ≠ 0 → 1 ≤ invL (p : Nat) (a : Nat) ∧ (a : Int) * invL (p : Nat) (a : Nat) % (p : Nat) = 1 ∧ ∀ b ∈ List.range p, 1 ≤ b → (b : Int) < invL (p : Nat) (a : Nat) → (a : Int) * b % (p : Nat) ≠ 1 := by decide +kernel
theorem inv_tab {p a : Int} (hp : IsP p) (h1 : 1 ≤ a) (h2 : a < p) : 1 ≤ invL p a ∧ a * invL p a % p = 1 ∧ ∀ b, 1 ≤ b → b < invL p a → a * b % p ≠ 1 := by
  obtain ⟨n, rfl⟩ := Int.eq_ofNat_of_zero_le (show 0 ≤ p by have := hp.lo; omega)
  obtain ⟨m, rfl⟩ := Int.eq_ofNat_of_zero_le (show 0 ≤ a by omega)
  have hi := (invL_fp (p := (n : Int)) (a := (m : Int)) (by have := hp.lo; omega)).2
  obtain ⟨k1, k2, k3⟩ := inv_all n (by unfold IsP at hp; simp; omega) m (by simp; omega) (by omega)
  refine ⟨k1, k2, fun b hb1 hb2 => ?_⟩
  obtain ⟨j, rfl⟩ := Int.eq_ofNat_of_zero_le (show 0 ≤ b by omega)
  exact k3 j (by simp; omega) (by omega) hb2
theorem sinv_c {p a : Int} {w : World} (hp : IsP p) (h1 : 1 ≤ a) (h2 : a < p) :
    Calls Try.prog 97 #[.int .i64 p, .int .i64 a] w fun e w' => e = .returned (.int .i64 (invL p a)) ∧ w = w' := by
  obtain ⟨t1, t2, t3⟩ := inv_tab hp h1 h2
  have hi := (invL_fp (p := p) (a := a) (by have := hp.lo; omega)).2
  have hp1 := hp.lo
  have hp2 := hp.hi
  obtain ⟨q, hq⟩ : ∃ q, q = invL p a := ⟨_, rfl⟩
  rw [← hq] at t1 t2 t3 hi ⊢
  clear hq
  have T2 := Lib.hid t2; have T3 := Lib.hid t3; clear t2 t3 hp
  go_enter Try.func97, Try.ntmps97
  go_wp2
  go_loop [5] (fun i => ∃ b : Int, 1 ≤ b ∧ b ≤ q ∧ i = .int .i64 b) (fun i => (q - intOf i).toNat)
  case atStart => exact ⟨1, by omega, t1, rfl⟩
  case round =>
    obtain ⟨b, hb1, hb2, rfl⟩ := hrel
    have hm := mulb (A := 13) (B := 13) (k := a) (y := b) (by omega) (by omega) (by omega) (by omega)
    have h0 : 0 ≤ a * b := Int.mul_nonneg (by omega) (by omega)
    by_cases hlt : b < q
    · have e1 : (a * b % p != 1) = true := by
        rw [bne_iff_ne]; exact T3.out b hb1 hlt
      go_wp2
      go_round
      case rel => exact ⟨b + 1, by omega, by omega, by go_num⟩
      case measure => simp [intOf]; omega
    · obtain rfl : b = q := by omega
      have e1 : (a * b % p != 1) = false := by
        rw [T2.out]; rfl
      go_wp2
      go_ret
      exact ⟨rfl, rfl⟩
theorem below_le {a b : World} (h : Below a.heap.size a b) : a.heap.size ≤ b.heap.size := h.size
theorem plusL_cong {p k k' : Int} (h : k % p = k' % p) : ∀ {xs ys : List Int}, plusL p xs ys k = plusL p xs ys k'
  | [], _ => by simp [plusL]
  | _ :: _, [] => by simp [plusL]
  | x :: xs, y :: ys => by
    have hr := plusL_cong h (xs := xs) (ys := ys)
    simp only [plusL, List.zipWith_cons_cons] at hr ⊢
    rw [hr, Int.add_emod, Int.mul_emod, h, ← Int.mul_emod, ← Int.add_emod]
theorem zw_scale2 {p k m : Int} : ∀ {xs ys : List Int}, plusL p xs (scaleL p ys k) m = plusL p xs ys (k * m)
  | [], _ => by simp [plusL]
  | _ :: _, [] => by simp [plusL, scaleL]
  | x :: xs, y :: ys => by
    have hr := zw_scale2 (p := p) (k := k) (m := m) (xs := xs) (ys := ys)
    simp only [plusL, scaleL, List.map_cons, List.zipWith_cons_cons] at hr ⊢
    rw [hr]
    congr 1
    rw [Int.add_emod, Int.mul_emod m, Int.emod_emod, ← Int.mul_emod, ← Int.add_emod]
    congr 2
    rw [Int.mul_comm y k, ← Int.mul_assoc, Int.mul_comm m k]
theorem sminus_c {p : Int} {x y : Value} {xs ys : List Int} {w : World} (hp : 1 ≤ p) (hp2 : p ≤ 1000)
    (hx : Sl w x xs) (hy : Sl w y ys) (sx : Sm 1000000 xs) (sy : Sm 1000000 ys) (hl : ys.length = xs.length) (hm : xs.length ≤ 1000000) :
    Calls Try.prog 98 #[.int .i64 p, x, y] w fun e w' => ∃ v, e = .returned v ∧ FrI w' w.heap.size v (plusL p xs ys (p - 1)) ∧ Below w.heap.size w w' := by
  have HL := Lib.hid hl; clear hl
  have hm2 : ys.length ≤ 1000000 := by rw [HL.out]; exact hm
  have hx1 := hx
  go_enter Try.func98, Try.ntmps98
  go_wp2_with fail
  refine (sscale_c hp hp2 (by omega) (by omega) hy sy hm2).mono ?_; rintro e w21 ⟨z, rfl, hz, hb21⟩
  have hx := hx.below hb21
  go_wp2_with fail
  refine (sadd_c hp hp2 hx hz.sl sx ((scaleL_fp hp).sm (by omega) (by omega)) (by rw [scaleL_len]; exact HL.out) hm).mono ?_; rintro e w22 ⟨t, rfl, ht, hb22⟩
  have hx := hx.below hb22; have hz := hz.below hb22
  go_wp2_with fail
  go_ret
  refine ⟨_, rfl, ?_, (by repeat (first | exact .refl _ _ | apply bwD | apply bwA | (refine bwS ?_ (by first | omega | simp <;> omega) _) | refine bwC ?_ (by assumption)))⟩
  rw [zw_scale2, Int.mul_one] at ht
  exact ht.more (below_le (by repeat (first | exact .refl _ _ | apply bwD | apply bwA | (refine bwS ?_ (by first | omega | simp <;> omega) _) | refine bwC ?_ (by assumption))))
end Go.Proofs.Ytfcdhdkhfdhjfaa
/-
  The checks of doublings and of lists of elements, the program's and the reference's.
-/
namespace Go.Proofs.Ytfcdhdkhfdhjfaa
open Go.RowKit

def chkE (p : Int) (st : List Int) (xss : List (List Int)) : Int := if isD p st = true then (if xss.all (isE p (sz st.length)) = true then 0 else 2) else 1
theorem boxed {w w1 : World} {u0 u1 : Value} {t : TypeId} (hb : Below (w.alloc (.cells #[u0, u1] t)).heap.size (w.alloc (.cells #[u0, u1] t)) w1) :
    w1.cell? ⟨w.heap.size, 0, none⟩ = some u0 ∧ w1.cell? ⟨w.heap.size, 1, none⟩ = some u1 :=
  ⟨kept hb (by simp [go_sem]), kept hb (by simp [go_sem])⟩
theorem all_snoc {α : Type} {f : α → Bool} {l : List α} {m : Nat} {x : α} (h : (l.take m).all f = true) (ht : l.take (m + 1) = l.take m ++ [x]) : (l.take (m + 1)).all f = f x := by
  rw [ht, List.all_append, h]; simp
theorem all_no {α : Type} {f : α → Bool} {l : List α} {x : α} (hx : x ∈ l) (h : f x = false) : l.all f = false := by
  rw [List.all_eq_false]; exact ⟨x, hx, by simp [h]⟩
theorem dfield_c {p : Int} {a : Option Addr} {n c : Nat} {w : World} :
    Calls Try.prog 29 #[.agg #[.int .i64 p, .slice a n c]] w fun e w' => e = .returned (.int .i64 p) ∧ Below w.heap.size w w' := by
  go_enter Try.func29, Try.ntmps29
  go_wp2
  go_ret
  exact ⟨rfl, (by repeat (first | exact .refl _ _ | apply bwD | apply bwA | (refine bwS ?_ (by first | omega | simp <;> omega) _) | refine bwC ?_ (by assumption)))⟩
theorem size_c {p : Int} {a : Option Addr} {n c : Nat} {w : World} (hn : n ≤ 4) :
    Calls Try.prog 28 #[.agg #[.int .i64 p, .slice a n c]] w fun e w' => e = .returned (.int .i64 ((sz n : Nat) : Int)) ∧ Below w.heap.size w w' := by
  rcases (show n = 0 ∨ n = 1 ∨ n = 2 ∨ n = 3 ∨ n = 4 by omega) with rfl | rfl | rfl | rfl | rfl
  all_goals
    go_enter Try.func28, Try.ntmps28
    go_wp2
    go_ret
    exact ⟨rfl, (by repeat (first | exact .refl _ _ | apply bwD | apply bwA | (refine bwS ?_ (by first | omega | simp <;> omega) _) | refine bwC ?_ (by assumption)))⟩
theorem ssize_c {p : Int} {a : Option Addr} {n c : Nat} {w : World} (hn : n ≤ 4) :
    Calls Try.prog 44 #[.agg #[.int .i64 p, .slice a n c]] w fun e w' => e = .returned (.int .i64 ((sz n : Nat) : Int)) ∧ Below w.heap.size w w' := by
  rcases (show n = 0 ∨ n = 1 ∨ n = 2 ∨ n = 3 ∨ n = 4 by omega) with rfl | rfl | rfl | rfl | rfl
  all_goals
    go_enter Try.func44, Try.ntmps44
    go_wp2
    go_ret
    exact ⟨rfl, (by repeat (first | exact .refl _ _ | apply bwD | apply bwA | (refine bwS ?_ (by first | omega | simp <;> omega) _) | refine bwC ?_ (by assumption)))⟩
theorem pow_le {n : Nat} (h : n ≤ 4) : sz n ≤ 16 := Nat.le_trans (Nat.pow_le_pow_right (by decide) h) (by decide)
def hasL (xs : List Int) (z : Int) : Bool := xs.contains z
def Found (k : Int) (b : Bool) : Prop := decide (0 ≤ k) = b
theorem index_c {x : Value} {xs : List Int} {z : Int} {w : World} (hx : Sl w x xs) (hm : xs.length ≤ 1048576) :
    Calls Try.prog 89 #[x, .int .i64 z] w fun e w' => ∃ k : Int, e = .returned (.int .i64 k) ∧ Found k (hasL xs z) ∧ -1 ≤ k ∧ k ≤ 1048576 ∧ w = w' := by
  obtain ⟨a, c, rfl, rfl | ⟨b, off, rfl, hx⟩⟩ := hx
  · go_enter Try.func89, Try.ntmps89
    go_wp2
    refine wp_loop_rounds 1 ?_; rw [rounds_succ]
    go_wp2; go_ret; exact ⟨_, rfl, (rfl : decide _ = _), by decide, by decide, rfl⟩
  go_enter Try.func89, Try.ntmps89
  go_wp2
  go_loop [8] (fun i => ∃ k : Nat, k ≤ xs.length ∧ i = .int .i64 k ∧ hasL (xs.take k) z = false) (fun i => xs.length - (intOf i).toNat)
  case atStart => exact ⟨0, Nat.zero_le _, rfl, rfl⟩
  case round =>
    obtain ⟨k, hk, rfl, hr⟩ := hrel
    by_cases hlt : k < xs.length
    · obtain ⟨u, hu, hc, ht⟩ := hx.get hlt
      have H := Lib.hid (And.intro hr ht); clear hr ht
      by_cases huz : z = u
      · subst huz
        have hcon : hasL xs z = true := by simpa [hasL] using hu
        have HC := Lib.hid hcon; clear hcon
        go_wp2
        go_ret
        exact ⟨_, rfl, by rw [HC.out]; unfold Found; simp, by omega, by omega, rfl⟩
      · have hne : (z == u) = false := by simpa using huz
        go_wp2
        go_round
        case rel => exact ⟨k + 1, by omega, by go_num, by
          rw [H.out.2]
          have h1 := H.out.1
          simp only [hasL, List.contains_eq_mem, decide_eq_false_iff_not, List.mem_append, List.mem_singleton] at h1 ⊢
          rintro (h | h)
          · exact h1 h
          · exact huz h⟩
        case measure => simp [intOf]; omega
    · have e : xs.take k = xs := take_all (by omega)
      rw [e] at hr
      have H := Lib.hid hr; clear hr e
      go_wp2
      go_ret
      exact ⟨_, rfl, by rw [H.out]; unfold Found; rfl, by decide, by decide, rfl⟩
theorem contains_c {x : Value} {xs : List Int} {z : Int} {w : World} (hx : Sl w x xs) (hm : xs.length ≤ 1048576) :
    Calls Try.prog 70 #[x, .int .i64 z] w fun e w' => e = .returned (.bool (hasL xs z)) ∧ w = w' := by
  obtain ⟨a, c, rfl, _⟩ := id hx
  go_enter Try.func70, Try.ntmps70
  go_wp2_with (go_at_call 89; refine (index_c hx hm).mono ?_; rintro e w1 ⟨k, rfl, hk, hk1, hk2, rfl⟩; unfold Found at hk; have H := Lib.hid hk; clear hk)
  go_ret
  exact ⟨by rw [← H.out]; rfl, rfl⟩
theorem isD_no1 {p : Int} {st : List Int} (h : prB p = false) : isD p st = false := by unfold isD; rw [h]; rfl
theorem isD_no2 {p : Int} {st : List Int} (h : ¬ st.length ≤ 4) : isD p st = false := by unfold isD; simp [h]
theorem isD_yes {p : Int} {st : List Int} (h : prB p = true) (h2 : st.length ≤ 4) : isD p st = (isL p st && !hasL st 0) := by
  unfold isD
  rw [h, decide_eq_true h2, Bool.true_and, Bool.true_and, Bool.eq_iff_iff]
  unfold isL inR hasL
  simp only [List.all_eq_true, Bool.and_eq_true, decide_eq_true_eq, Bool.not_eq_true', List.contains_eq_mem, decide_eq_false_iff_not]
  constructor
  · intro k
    exact ⟨fun x hx => by have := k x hx; omega, fun h0 => by have := k 0 h0; omega⟩
  · rintro ⟨k, h0⟩ x hx
    have := k x hx
    have : x ≠ 0 := fun e => h0 (e ▸ hx)
    omega
theorem isdbl_c {p : Int} {x : Value} {st : List Int} {w : World} (hx : Sl w x st) (hm : st.length ≤ 1048576) :
    Calls Try.prog 48 #[.agg #[.int .i64 p, x]] w fun e w' => e = .returned (.bool (isD p st)) ∧ Below w.heap.size w w' := by
  obtain ⟨s, hs⟩ : ∃ s, s = isD p st := ⟨_, rfl⟩
  rw [← hs]
  have H := Lib.hid hs; clear hs
  have hw : Sl ((w.alloc (.cells #[.int .i64 p, x] 32)).drew) x st := hx.below (by repeat (first | exact .refl _ _ | apply bwD | apply bwA | (refine bwS ?_ (by first | omega | simp <;> omega) _) | refine bwC ?_ (by assumption)))
  obtain ⟨a, c, rfl, _⟩ := hx
  go_enter Try.func48, Try.ntmps48
  go_wp2
  refine region_flow [(true, [(0, 0), (1, 1), (2, 3)]), (true, [(3, 0), (4, 0), (5, 1), (6, 0), (7, 0), (8, 0), (9, 0), (10, 1), (12, 0), (13, 1), (11, 3)]), (false, [(14, 4), (15, 0), (16, 0), (17, 0), (18, 1), (19, 4), (20, 0), (21, 0), (22, 0)])] (by kernel_rfl) ?_
  refine norm_K fun K hK => ?_
  change wpList _ _ _ [_, _, _] _ _
  go_wp2_with fail
  refine isPrime_c.mono ?_; rintro e w1 ⟨rfl, rfl⟩
  cases h1 : prB p
  · obtain rfl : s = false := by rw [H.out, isD_no1 h1]
    go_wp2_with fail
    first | (refine hK _ _ ⟨Below.refl _ _, ?_⟩; clear hK K) | refine ⟨Below.refl _ _, ?_⟩
    refine norm_K fun K hK => ?_
    change wpList _ _ _ [_, _, _, _, _, _, _, _, _, _, _] _ _
    go_wp2_with fail
    first | (refine hK _ _ ⟨Below.refl _ _, ?_⟩; clear hK K) | refine ⟨Below.refl _ _, ?_⟩
    refine norm_K fun K hK => ?_
    change wpList _ _ _ [_, _, _, _, _, _, _, _, _] _ _
    go_wp2_with fail
    first | (refine hK _ _ ⟨rfl, ?_⟩; clear hK K) | refine ⟨rfl, ?_⟩
    go_wp2
    go_ret
    exact ⟨rfl, (by repeat (first | exact .refl _ _ | apply bwD | apply bwA | (refine bwS ?_ (by first | omega | simp <;> omega) _) | refine bwC ?_ (by assumption)))⟩
  have hp := prB_iff.1 h1
  have hp1 := hp.lo
  have hp2 := hp.hi
  by_cases h2 : st.length ≤ 4
  · have HY := Lib.hid (isD_yes h1 h2)
    have h2' : decide ((st.length : Int) ≤ 4) = true := by simp; omega
    go_wp2_with fail
    first | (refine hK _ _ ⟨Below.refl _ _, ?_⟩; clear hK K) | refine ⟨Below.refl _ _, ?_⟩
    refine norm_K fun K hK => ?_
    change wpList _ _ _ [_, _, _, _, _, _, _, _, _, _, _] _ _
    go_wp2_with fail
    refine dfield_c.mono ?_; rintro e w1 ⟨rfl, hb⟩
    go_wp2_with fail
    first | (refine hK _ _ ⟨hb, ?_⟩; clear hK K) | refine ⟨hb, ?_⟩
    refine norm_K fun K hK => ?_
    change wpList _ _ _ [_, _, _, _, _, _, _, _, _] _ _
    have d1 := kept hb (b := w.heap.size) (o := 1) (v := .slice a st.length c) (by simp [go_sem])
    go_wp2_with fail
    refine (is_c (by omega) (by omega) (hw.below hb) hm).mono ?_; rintro e w2 ⟨rfl, rfl⟩
    cases h3 : isL p st
    · obtain rfl : s = false := by rw [H.out, HY.out, h3]; rfl
      go_wp2_with fail
      first | (refine hK _ _ ⟨rfl, ?_⟩; clear hK K) | refine ⟨rfl, ?_⟩
      go_wp2
      go_ret
      exact ⟨rfl, bwC (by repeat (first | exact .refl _ _ | apply bwD | apply bwA | (refine bwS ?_ (by first | omega | simp <;> omega) _) | refine bwC ?_ (by assumption))) hb⟩
    · obtain rfl : s = !hasL st 0 := by rw [H.out, HY.out, h3]; rfl
      go_wp2_with fail
      refine (contains_c (hw.below hb) hm).mono ?_; rintro e w2 ⟨rfl, rfl⟩
      go_wp2_with fail
      first | (refine hK _ _ ⟨rfl, ?_⟩; clear hK K) | refine ⟨rfl, ?_⟩
      go_wp2
      go_ret
      exact ⟨rfl, bwC (by repeat (first | exact .refl _ _ | apply bwD | apply bwA | (refine bwS ?_ (by first | omega | simp <;> omega) _) | refine bwC ?_ (by assumption))) hb⟩
  · obtain rfl : s = false := by rw [H.out, isD_no2 h2]
    have h2' : decide ((st.length : Int) ≤ 4) = false := by simp; omega
    go_wp2_with fail
    first | (refine hK _ _ ⟨Below.refl _ _, ?_⟩; clear hK K) | refine ⟨Below.refl _ _, ?_⟩
    refine norm_K fun K hK => ?_
    change wpList _ _ _ [_, _, _, _, _, _, _, _, _, _, _] _ _
    go_wp2_with fail
    first | (refine hK _ _ ⟨Below.refl _ _, ?_⟩; clear hK K) | refine ⟨Below.refl _ _, ?_⟩
    refine norm_K fun K hK => ?_
    change wpList _ _ _ [_, _, _, _, _, _, _, _, _] _ _
    go_wp2_with fail
    first | (refine hK _ _ ⟨rfl, ?_⟩; clear hK K) | refine ⟨rfl, ?_⟩
    go_wp2
    go_ret
    exact ⟨rfl, (by repeat (first | exact .refl _ _ | apply bwD | apply bwA | (refine bwS ?_ (by first | omega | simp <;> omega) _) | refine bwC ?_ (by assumption)))⟩
end Go.Proofs.Ytfcdhdkhfdhjfaa
