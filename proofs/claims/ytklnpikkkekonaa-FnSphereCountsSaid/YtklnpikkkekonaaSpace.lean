/-
  Spaces: a prime and a row of squares, as a value of two parts; the laws' helpers over them, and the program's small questions.
-/
import Derived.Test.YtklnpikkkekonaaLaw
namespace Go.Proofs.Ytklnpikkkekonaa
open Go.RowKit

theorem kept {W w1 : World} (hb : Below W.heap.size W w1) {b o : Nat} {v : Value} (h : W.cell? ⟨b, o, none⟩ = some v) : w1.cell? ⟨b, o, none⟩ = some v := by
  rw [hb.cell (p := ⟨b, o, none⟩) (World.block_lt_of_cell? W _ h)]; exact h
theorem keptF {W w1 : World} (hb : Below W.heap.size W w1) {b o : Nat} (hlt : b < W.heap.size) (h : W.frozen? ⟨b, o, none⟩ = false) : w1.frozen? ⟨b, o, none⟩ = false := by
  rw [hb.frozen (p := ⟨b, o, none⟩) hlt]; exact h
theorem OwnI.other {w : World} {B g n cap : Nat} {xs : List Int} (h : OwnI w B g n cap xs) {p : Addr} (hp : g ≠ p.block) (u : Value) : OwnI (w.setCell p u) B g n cap xs := by
  obtain ⟨cur, hh, hc, ht⟩ := h.row
  exact OwnI.mk_ h.lt.1 (by rw [← hh]; exact Below.heap_setCell _ _ _ _ hp) hc ht h.caps.1 h.caps.2
theorem szI_bd {left : Int} {n : Nat} (h0 : 0 ≤ left) (h1 : left ≤ 1048576) : -1 ≤ szI left n ∧ szI left n ≤ 1048576 := by unfold szI; split <;> omega
theorem szI_neg {left : Int} {n : Nat} (h : szI left n < 0) : szI left n = -1 := by unfold szI at h ⊢; split <;> simp_all
theorem spfield_c {p : Int} {a : Option Addr} {n c : Nat} {w : World} :
    Calls Try.prog 25 #[.agg #[.int .i64 p, .slice a n c]] w fun e w' => e = .returned (.int .i64 p) ∧ Below w.heap.size w w' := by
  go_enter Try.func25, Try.ntmps25
  go_wp2
  go_ret
  exact ⟨rfl, (by repeat (first | exact Below.refl _ _ | apply blw_drew | apply blw_alloc | (refine blw_set ?_ (by first | omega | (simp; done) | (simp; omega)) _) | refine below_chain ?_ (by assumption)))⟩
theorem dim_c {p : Int} {a : Option Addr} {n c : Nat} {w : World} :
    Calls Try.prog 23 #[.agg #[.int .i64 p, .slice a n c]] w fun e w' => e = .returned (.int .i64 n) ∧ Below w.heap.size w w' := by
  go_enter Try.func23, Try.ntmps23
  go_wp2
  go_ret
  exact ⟨rfl, (by repeat (first | exact Below.refl _ _ | apply blw_drew | apply blw_alloc | (refine blw_set ?_ (by first | omega | (simp; done) | (simp; omega)) _) | refine below_chain ?_ (by assumption)))⟩
theorem sprime_c {p : Int} {w : World} : Calls Try.prog 66 #[.int .i64 p] w fun e w' => e = .returned (.bool (prB p)) ∧ w = w' := by
  by_cases h3 : p = 3
  · subst h3; go_enter Try.func66, Try.ntmps66; go_wp2; go_ret; exact ⟨rfl, rfl⟩
  by_cases h5 : p = 5
  · subst h5; go_enter Try.func66, Try.ntmps66; go_wp2; go_ret; exact ⟨rfl, rfl⟩
  by_cases h7 : p = 7
  · subst h7; go_enter Try.func66, Try.ntmps66; go_wp2; go_ret; exact ⟨rfl, rfl⟩
  by_cases h11 : p = 11
  · subst h11; go_enter Try.func66, Try.ntmps66; go_wp2; go_ret; exact ⟨rfl, rfl⟩
  by_cases h13 : p = 13
  · subst h13; go_enter Try.func66, Try.ntmps66; go_wp2; go_ret; exact ⟨rfl, rfl⟩
  have e : prB p = false := by simp [prB, IsP, *]
  have E := Lib.hid e; clear e
  have g3 : (p == 3) = false := by simpa using h3
  have g5 : (p == 5) = false := by simpa using h5
  have g7 : (p == 7) = false := by simpa using h7
  have g11 : (p == 11) = false := by simpa using h11
  have g13 : (p == 13) = false := by simpa using h13
  go_enter Try.func66, Try.ntmps66; go_wp2; go_ret; exact ⟨by rw [E.out]; rfl, rfl⟩
theorem sin_c {n l h : Int} {w : World} :
    Calls Try.prog 67 #[.int .i64 n, .int .i64 l, .int .i64 h] w fun e w' => e = .returned (.bool (inR n l h)) ∧ w = w' := by
  by_cases h1 : l ≤ n
  · go_enter Try.func67, Try.ntmps67
    go_wp2
    go_ret
    exact ⟨by simp [inR, *], rfl⟩
  · go_enter Try.func67, Try.ntmps67
    go_wp2
    go_ret
    exact ⟨by simp [inR]; omega, rfl⟩
theorem snums_c {p : Int} {x : Value} {xs : List Int} {w : World} (hp : 0 ≤ p) (hp2 : p ≤ 1000) (hx : Sl w x xs) (hm : xs.length ≤ 1048576) :
    Calls Try.prog 62 #[.int .i64 p, x] w fun e w' => e = .returned (.bool (isL p xs)) ∧ w = w' := by
  obtain ⟨a, c, rfl, rfl | ⟨b, off, rfl, hx⟩⟩ := hx
  · go_enter Try.func62, Try.ntmps62
    go_wp2
    refine wp_loop_rounds 1 ?_; rw [rounds_succ]
    go_wp2; go_ret; exact ⟨rfl, rfl⟩
  go_enter Try.func62, Try.ntmps62
  go_wp2
  go_loop [5] (fun i => ∃ k : Nat, k ≤ xs.length ∧ i = .int .i64 k ∧ isL p (xs.take k) = true) (fun i => xs.length - (intOf i).toNat)
  case atStart => exact ⟨0, Nat.zero_le _, rfl, rfl⟩
  case round =>
    obtain ⟨k, hk, rfl, hr⟩ := hrel
    by_cases hlt : k < xs.length
    · obtain ⟨z, hz, hc, ht⟩ := hx.get hlt
      have hs := isL_snoc (p := p) (x := z) (xs := xs.take k)
      have H := Lib.hid (And.intro hr (And.intro ht hs)); clear hr ht hs
      cases hb : inR z 0 (p - 1)
      · have hall : isL p xs = false := by
          have h1 : isL p (xs.take (k + 1)) = false := by rw [H.out.2.1, H.out.2.2, hb, Bool.and_false]
          cases h2 : isL p xs with
          | false => rfl
          | true =>
            have h3 : isL p (xs.take (k + 1)) = true := isL_fp.2 fun y hy => isL_fp.1 h2 y (List.mem_of_mem_take hy)
            rw [h1] at h3; cases h3
        have HA := Lib.hid hall; clear hall
        go_wp2_with (go_at_call 67; refine sin_c.mono ?_; rintro e w' ⟨rfl, rfl⟩)
        go_ret
        exact ⟨by rw [HA.out]; rfl, rfl⟩
      · go_wp2_with (go_at_call 67; refine sin_c.mono ?_; rintro e w' ⟨rfl, rfl⟩)
        go_round
        case rel => exact ⟨k + 1, by omega, by go_num, by rw [H.out.2.1, H.out.2.2, H.out.1, hb]; rfl⟩
        case measure => simp [intOf]; omega
    · have e : xs.take k = xs := take_all (by omega)
      rw [e] at hr
      have H := Lib.hid hr; clear hr e
      go_wp2
      go_ret
      exact ⟨by rw [H.out]; rfl, rfl⟩
def isSp (p : Int) (sq : List Int) : Bool := prB p && inR sq.length 1 6 && isL p sq
theorem isSp_iff {p : Int} {sq : List Int} : isSp p sq = true ↔ IsP p ∧ 1 ≤ sq.length ∧ sq.length ≤ 6 ∧ Fp p sq := by
  unfold isSp prB inR
  simp only [Bool.and_eq_true, decide_eq_true_eq, isL_fp]
  constructor
  · rintro ⟨⟨h1, h2, h3⟩, h4⟩; exact ⟨h1, by omega, by omega, h4⟩
  · rintro ⟨h1, h2, h3, h4⟩; exact ⟨⟨h1, by omega, by omega⟩, h4⟩
theorem prB_iff {p : Int} : prB p = true ↔ IsP p := by simp [prB]
theorem isspace_c {p : Int} {x : Value} {xs : List Int} {w : World} (hx : Sl w x xs) (hm : xs.length ≤ 1048576) :
    Calls Try.prog 28 #[.agg #[.int .i64 p, x]] w fun e w' => e = .returned (.bool (isSp p xs)) ∧ Below w.heap.size w w' := by
  obtain ⟨s, hs⟩ : ∃ s, s = isSp p xs := ⟨_, rfl⟩
  unfold isSp at hs
  rw [show isSp p xs = s by rw [hs]; rfl]
  have hw : Sl ((w.alloc (.cells #[.int .i64 p, x] 26)).drew) x xs := hx.below (by repeat (first | exact Below.refl _ _ | apply blw_drew | apply blw_alloc | (refine blw_set ?_ (by first | omega | (simp; done) | (simp; omega)) _) | refine below_chain ?_ (by assumption)))
  have H := Lib.hid hs; clear hs
  obtain ⟨a, c, rfl, _⟩ := hx
  go_enter Try.func28, Try.ntmps28
  go_wp2
  refine region_flow [(true, [(0, 0), (1, 1), (2, 3)]), (true, [(3, 0), (4, 0), (5, 1), (6, 3)]), (true, [(7, 3)]), (true, [(8, 0), (9, 0), (10, 1), (12, 0), (13, 1), (11, 3)]), (false, [(14, 4), (15, 0), (16, 0)])] (by kernel_rfl) ?_
  refine norm_K fun K hK => ?_
  change wpList _ _ _ [_, _, _] _ _
  go_wp2_with fail
  refine isPrime_c.mono ?_; rintro e w1 ⟨rfl, rfl⟩
  cases h1 : prB p
  · obtain rfl : s = false := by rw [H.out, h1]; rfl
    go_wp2_with fail
    first | (refine hK _ _ ⟨Below.refl _ _, ?_⟩; clear hK K) | refine ⟨Below.refl _ _, ?_⟩
    refine norm_K fun K hK => ?_
    change wpList _ _ _ [_, _, _, _] _ _
    go_wp2_with fail
    first | (refine hK _ _ ⟨Below.refl _ _, ?_⟩; clear hK K) | refine ⟨Below.refl _ _, ?_⟩
    refine norm_K fun K hK => ?_
    change wpList _ _ _ [_] _ _
    go_wp2_with fail
    first | (refine hK _ _ ⟨Below.refl _ _, ?_⟩; clear hK K) | refine ⟨Below.refl _ _, ?_⟩
    refine norm_K fun K hK => ?_
    change wpList _ _ _ [_, _, _, _, _, _] _ _
    go_wp2_with fail
    first | (refine hK _ _ ⟨Below.refl _ _, ?_⟩; clear hK K) | refine ⟨Below.refl _ _, ?_⟩
    refine norm_K fun K hK => ?_
    change wpList _ _ _ [_, _, _] _ _
    go_wp2_with fail
    first | (refine hK _ _ ⟨rfl, ?_⟩; clear hK K) | refine ⟨rfl, ?_⟩
    go_wp2
    go_ret
    exact ⟨rfl, (by repeat (first | exact Below.refl _ _ | apply blw_drew | apply blw_alloc | (refine blw_set ?_ (by first | omega | (simp; done) | (simp; omega)) _) | refine below_chain ?_ (by assumption)))⟩
  have hp := prB_iff.1 h1
  have hp1 := hp.lo
  have hp2 := hp.hi
  go_wp2_with fail
  first | (refine hK _ _ ⟨Below.refl _ _, ?_⟩; clear hK K) | refine ⟨Below.refl _ _, ?_⟩
  refine norm_K fun K hK => ?_
  change wpList _ _ _ [_, _, _, _] _ _
  go_wp2_with fail
  refine length_c.mono ?_; rintro e w1 ⟨rfl, rfl⟩
  go_wp2_with fail
  first | (refine hK _ _ ⟨Below.refl _ _, ?_⟩; clear hK K) | refine ⟨Below.refl _ _, ?_⟩
  refine norm_K fun K hK => ?_
  change wpList _ _ _ [_] _ _
  go_wp2_with fail
  refine inRange_c.mono ?_; rintro e w1 ⟨rfl, rfl⟩
  cases h2 : inR xs.length 1 6
  · obtain rfl : s = false := by rw [H.out, h1, h2]; rfl
    go_wp2_with fail
    first | (refine hK _ _ ⟨Below.refl _ _, ?_⟩; clear hK K) | refine ⟨Below.refl _ _, ?_⟩
    refine norm_K fun K hK => ?_
    change wpList _ _ _ [_, _, _, _, _, _] _ _
    go_wp2_with fail
    first | (refine hK _ _ ⟨Below.refl _ _, ?_⟩; clear hK K) | refine ⟨Below.refl _ _, ?_⟩
    refine norm_K fun K hK => ?_
    change wpList _ _ _ [_, _, _] _ _
    go_wp2_with fail
    first | (refine hK _ _ ⟨rfl, ?_⟩; clear hK K) | refine ⟨rfl, ?_⟩
    go_wp2
    go_ret
    exact ⟨rfl, (by repeat (first | exact Below.refl _ _ | apply blw_drew | apply blw_alloc | (refine blw_set ?_ (by first | omega | (simp; done) | (simp; omega)) _) | refine below_chain ?_ (by assumption)))⟩
  go_wp2_with fail
  first | (refine hK _ _ ⟨Below.refl _ _, ?_⟩; clear hK K) | refine ⟨Below.refl _ _, ?_⟩
  refine norm_K fun K hK => ?_
  change wpList _ _ _ [_, _, _, _, _, _] _ _
  go_wp2_with fail
  refine spfield_c.mono ?_; rintro e w1 ⟨rfl, hb⟩
  go_wp2_with fail
  first | (refine hK _ _ ⟨hb, ?_⟩; clear hK K) | refine ⟨hb, ?_⟩
  refine norm_K fun K hK => ?_
  change wpList _ _ _ [_, _, _] _ _
  go_wp2_with fail
  refine (is_c (by omega) (by omega) (hw.below hb) hm).mono ?_; rintro e w1 ⟨rfl, rfl⟩
  obtain rfl : s = isL p xs := by rw [H.out, h1, h2]; rfl
  go_wp2_with fail
  first | (refine hK _ _ ⟨rfl, ?_⟩; clear hK K) | refine ⟨rfl, ?_⟩
  go_wp2
  go_ret
  exact ⟨rfl, below_chain (by repeat (first | exact Below.refl _ _ | apply blw_drew | apply blw_alloc | (refine blw_set ?_ (by first | omega | (simp; done) | (simp; omega)) _) | refine below_chain ?_ (by assumption))) hb⟩
end Go.Proofs.Ytklnpikkkekonaa
