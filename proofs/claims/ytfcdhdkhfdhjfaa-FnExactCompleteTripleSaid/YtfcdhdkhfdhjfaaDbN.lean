/-
  Products, norms, traces and elements of the basis: the program's walks over a doubling.
-/
import Derived.Test.YtfcdhdkhfdhjfaaDbM
namespace Go.Proofs.Ytfcdhdkhfdhjfaa
open Go.RowKit

structure Dok (p : Int) (st : List Int) : Prop where
  hp : IsP p
  hl : st.length ≤ 3
  hs : ∀ s ∈ st, 1 ≤ s ∧ s ≤ p - 1
theorem Dok.of {p : Int} {st : List Int} (h : isD p st = true) (h2 : ¬ 3 < st.length) : Dok p st := by
  obtain ⟨h1, _, h3⟩ := isD_iff.1 h
  exact ⟨h1, by omega, h3⟩
theorem Dok.fp {p : Int} {st : List Int} (h : Dok p st) : Fp p st := fun x hx => by have := h.hs x hx; omega
theorem Dok.fr {p : Int} {st : List Int} (h : Dok p st) : Fp p st.reverse := fun x hx => h.fp x (by simpa using hx)
theorem sz_le {p : Int} {st : List Int} (h : Dok p st) : 1 ≤ sz st.length ∧ sz st.length ≤ 8 :=
  ⟨Nat.pow_pos (by decide), Nat.le_trans (Nat.pow_le_pow_right (by decide) h.hl) (by decide)⟩
theorem times_c {p : Int} {s x y : Value} {st xs ys : List Int} {w : World} (hd : Dok p st) (hs : El w s st) (hx : El w x xs) (hy : El w y ys) (ex : Ev p (sz st.length) xs) (ey : Ev p (sz st.length) ys) :
    Calls Try.prog 78 #[.agg #[.int .i64 p, s], x, y] w fun e w' => ∃ v, e = .returned v ∧ FrI w' w.heap.size v (mulL p st xs ys) ∧ Below w.heap.size w w' := by
  have hp := hd.hp
  have hfr := hd.fr
  have hsz := sz_le hd
  have hlr : st.reverse.length = st.length := by simp
  have hl3 := hd.hl
  have hcon := fun (W : World) (s x y : Value) (hs : El W s st) hx hy => doubled_c st.reverse (w := W) (p := p) (s := s) (x := x) (y := y) (xs := xs) (ys := ys) hp (by omega) (by rw [List.reverse_reverse]; exact hs) hfr hx hy (by rw [hlr]; exact ex) (by rw [hlr]; exact ey)
  obtain ⟨a, c, rfl, _⟩ := id hs.op
  obtain ⟨a1, c1, rfl, _⟩ := id hx.op
  obtain ⟨a2, c2, rfl, _⟩ := id hy.op
  clear hlr hfr
  go_enter Try.func78, Try.ntmps78
  have hb0 : Below w.heap.size w (w.alloc (.cells #[.int .i64 p, .slice a st.length c] 32)) := (by repeat (first | exact .refl _ _ | apply bwD | apply bwA | (refine bwS ?_ (by first | omega | simp <;> omega) _) | refine bwC ?_ (by assumption)))
  have hs := hs.below hb0; have hx := hx.below hb0; have hy := hy.below hb0
  have d0 : (w.alloc (.cells #[.int .i64 p, .slice a st.length c] 32)).cell? ⟨w.heap.size, 0, none⟩ = some (.int .i64 p) := by simp [go_sem]
  have d1 : (w.alloc (.cells #[.int .i64 p, .slice a st.length c] 32)).cell? ⟨w.heap.size, 1, none⟩ = some (.slice a st.length c) := by simp [go_sem]
  go_wp2_with fail
  refine region_flow [(false, [(0, 1), (2, 0), (3, 1), (4, 0), (5, 0), (1, 5)]), (false, [(6, 4), (7, 0)])] (by kernel_rfl) ?_
  refine norm_K fun K hK => ?_
  change wpList _ _ _ [_, _, _, _, _, _] _ _
  have hb1 : Below (w.alloc (.cells #[.int .i64 p, .slice a st.length c] 32)).heap.size (w.alloc (.cells #[.int .i64 p, .slice a st.length c] 32)) (w.alloc (.cells #[.int .i64 p, .slice a st.length c] 32)).drew := (by repeat (first | exact .refl _ _ | apply bwD | apply bwA | (refine bwS ?_ (by first | omega | simp <;> omega) _) | refine bwC ?_ (by assumption)))
  have hs := hs.below hb1; have hx := hx.below hb1; have hy := hy.below hb1; have d0 := kept hb1 d0; have d1 := kept hb1 d1
  go_wp2_with fail
  refine (dfield_c).mono ?_; rintro e w2 ⟨rfl, hb2⟩
  have hs := hs.below hb2; have hx := hx.below hb2; have hy := hy.below hb2; have d0 := kept hb2 d0; have d1 := kept hb2 d1
  go_wp2_with fail
  have hz0 : Below (w.alloc (.cells #[.int .i64 p, .slice a st.length c] 32)).drew.heap.size (w.alloc (.cells #[.int .i64 p, .slice a st.length c] 32)).drew w2 := (by repeat (first | exact .refl _ _ | apply bwD | apply bwA | (refine bwS ?_ (by first | omega | simp <;> omega) _) | refine bwC ?_ (by assumption)))
  first | (refine hK _ _ ⟨hz0, ?_⟩; clear hK K) | refine ⟨hz0, ?_⟩
  clear hz0
  refine norm_K fun K hK => ?_
  change wpList _ _ _ [_, _] _ _
  go_wp2_with fail
  refine (hcon _ _ _ _ hs hx hy).mono ?_; rintro e w3 ⟨z, rfl, hz, hb3⟩
  have hs := hs.below hb3; have hx := hx.below hb3; have hy := hy.below hb3; have d0 := kept hb3 d0; have d1 := kept hb3 d1
  go_wp2_with fail
  first | (refine hK _ _ ⟨rfl, ?_⟩; clear hK K) | refine ⟨rfl, ?_⟩
  go_wp2_with fail
  go_ret
  exact ⟨_, rfl, hz.more (below_le (by repeat (first | exact .refl _ _ | apply bwD | apply bwA | (refine bwS ?_ (by first | omega | simp <;> omega) _) | refine bwC ?_ (by assumption)))), (by repeat (first | exact .refl _ _ | apply bwD | apply bwA | (refine bwS ?_ (by first | omega | simp <;> omega) _) | refine bwC ?_ (by assumption)))⟩
theorem norm_c {p : Int} {s x : Value} {st xs : List Int} {w : World} (hd : Dok p st) (hs : El w s st) (hx : El w x xs) (ex : Ev p (sz st.length) xs) :
    Calls Try.prog 76 #[.agg #[.int .i64 p, s], x] w fun e w' => e = .returned (.int .i64 (normL p st xs)) ∧ Below w.heap.size w w' := by
  have hsz := sz_le hd
  have hp1 := hd.hp.lo
  have hp2 := hd.hp.hi
  have L1 := Lib.hid ex.1
  have e2 := mulL_ev (by omega) ex (ex.conj (by omega))
  have L2 := Lib.hid e2.1
  have hN : normL p st xs = (mulL p st xs (conjL p xs)).getD 0 0 := rfl
  obtain ⟨q, hq⟩ : ∃ q, q = (mulL p st xs (conjL p xs)).getD 0 0 := ⟨_, rfl⟩
  rw [hN, ← hq]
  have HQ := Lib.hid hq; clear hq hN
  obtain ⟨a, c, rfl, _⟩ := id hs.op
  obtain ⟨a1, c1, rfl, _⟩ := id hx.op
  go_enter Try.func76, Try.ntmps76
  have hb0 : Below w.heap.size w (w.alloc (.cells #[.int .i64 p, .slice a st.length c] 32)) := (by repeat (first | exact .refl _ _ | apply bwD | apply bwA | (refine bwS ?_ (by first | omega | simp <;> omega) _) | refine bwC ?_ (by assumption)))
  have hs := hs.below hb0; have hx := hx.below hb0
  have d0 : (w.alloc (.cells #[.int .i64 p, .slice a st.length c] 32)).cell? ⟨w.heap.size, 0, none⟩ = some (.int .i64 p) := by simp [go_sem]
  have d1 : (w.alloc (.cells #[.int .i64 p, .slice a st.length c] 32)).cell? ⟨w.heap.size, 1, none⟩ = some (.slice a st.length c) := by simp [go_sem]
  go_wp2_with fail
  refine region_flow [(false, [(0, 1), (1, 0), (2, 1), (4, 0), (3, 5)]), (false, [(5, 5)]), (false, [(6, 4), (7, 0), (8, 1), (9, 0)])] (by kernel_rfl) ?_
  refine norm_K fun K hK => ?_
  change wpList _ _ _ [_, _, _, _, _] _ _
  have hb1 : Below (w.alloc (.cells #[.int .i64 p, .slice a st.length c] 32)).heap.size (w.alloc (.cells #[.int .i64 p, .slice a st.length c] 32)) (w.alloc (.cells #[.int .i64 p, .slice a st.length c] 32)).drew := (by repeat (first | exact .refl _ _ | apply bwD | apply bwA | (refine bwS ?_ (by first | omega | simp <;> omega) _) | refine bwC ?_ (by assumption)))
  have hs := hs.below hb1; have hx := hx.below hb1; have d0 := kept hb1 d0; have d1 := kept hb1 d1
  go_wp2_with fail
  refine (dfield_c).mono ?_; rintro e w2 ⟨rfl, hb2⟩
  have hs := hs.below hb2; have hx := hx.below hb2; have d0 := kept hb2 d0; have d1 := kept hb2 d1
  go_wp2_with fail
  have hz0 : Below (w.alloc (.cells #[.int .i64 p, .slice a st.length c] 32)).drew.heap.size (w.alloc (.cells #[.int .i64 p, .slice a st.length c] 32)).drew w2 := (by repeat (first | exact .refl _ _ | apply bwD | apply bwA | (refine bwS ?_ (by first | omega | simp <;> omega) _) | refine bwC ?_ (by assumption)))
  first | (refine hK _ _ ⟨hz0, ?_⟩; clear hK K) | refine ⟨hz0, ?_⟩
  clear hz0
  refine norm_K fun K hK => ?_
  change wpList _ _ _ [_] _ _
  go_wp2_with fail
  refine (conj_c (by omega) (by omega) hx (by rw [L1.out]; omega) ex.2 (by rw [L1.out]; omega)).mono ?_; rintro e w3 ⟨z, rfl, hz, hb3⟩
  have hs := hs.below hb3; have hx := hx.below hb3; have d0 := kept hb3 d0; have d1 := kept hb3 d1
  go_wp2_with fail
  have hz1 : Below (w.alloc (.cells #[.int .i64 p, .slice a st.length c] 32)).drew.heap.size (w.alloc (.cells #[.int .i64 p, .slice a st.length c] 32)).drew w3 := (by repeat (first | exact .refl _ _ | apply bwD | apply bwA | (refine bwS ?_ (by first | omega | simp <;> omega) _) | refine bwC ?_ (by assumption)))
  first | (refine hK _ _ ⟨hz1, ?_⟩; clear hK K) | refine ⟨hz1, ?_⟩
  clear hz1
  refine norm_K fun K hK => ?_
  change wpList _ _ _ [_, _, _, _] _ _
  go_wp2_with fail
  refine (times_c hd hs hx hz.el ex (ex.conj (by omega))).mono ?_; rintro e w4 ⟨t, rfl, ⟨g, cap, rfl, ht⟩, hb4⟩
  have hs := hs.below hb4; have hx := hx.below hb4; have d0 := kept hb4 d0; have d1 := kept hb4 d1; have hz := hz.below hb4
  rw [L2.out] at ht ⊢
  have hc := ht.hold (i := 0) (by omega)
  rw [← HQ.out] at hc
  go_wp2_with fail
  first | (refine hK _ _ ⟨rfl, ?_⟩; clear hK K) | refine ⟨rfl, ?_⟩
  go_wp2_with fail
  go_ret
  exact ⟨rfl, (by repeat (first | exact .refl _ _ | apply bwD | apply bwA | (refine bwS ?_ (by first | omega | simp <;> omega) _) | refine bwC ?_ (by assumption)))⟩
theorem trace_c {p : Int} {s x : Value} {st xs : List Int} {w : World} (hp : IsP p) (hs : El w s st) (hx : El w x xs) (fx : Fp p xs) (hne : 0 < xs.length) :
    Calls Try.prog 77 #[.agg #[.int .i64 p, s], x] w fun e w' => e = .returned (.int .i64 (2 * xs.getD 0 0 % p)) ∧ Below w.heap.size w w' := by
  have hp1 := hp.lo
  have hp2 := hp.hi
  have hb := fx.g0 (by omega) 0
  obtain ⟨b1, o1, c1, rfl, h1, h2, hA⟩ := hx.op1 hne
  have hc := hA.get0 hne
  obtain ⟨q, hq⟩ : ∃ q, q = xs.getD 0 0 := ⟨_, rfl⟩
  rw [← hq] at hc hb ⊢
  clear hq hA hx
  obtain ⟨a, c, rfl, _⟩ := id hs.op
  go_enter Try.func77, Try.ntmps77
  have hb0 : Below w.heap.size w (w.alloc (.cells #[.int .i64 p, .slice a st.length c] 32)) := (by repeat (first | exact .refl _ _ | apply bwD | apply bwA | (refine bwS ?_ (by first | omega | simp <;> omega) _) | refine bwC ?_ (by assumption)))
  have hs := hs.below hb0; have hc := kept hb0 hc
  have d0 : (w.alloc (.cells #[.int .i64 p, .slice a st.length c] 32)).cell? ⟨w.heap.size, 0, none⟩ = some (.int .i64 p) := by simp [go_sem]
  have d1 : (w.alloc (.cells #[.int .i64 p, .slice a st.length c] 32)).cell? ⟨w.heap.size, 1, none⟩ = some (.slice a st.length c) := by simp [go_sem]
  go_wp2_with fail
  refine region_flow [(false, [(0, 1), (2, 0), (3, 0), (4, 1), (5, 0), (1, 5)]), (false, [(6, 4), (7, 0)])] (by kernel_rfl) ?_
  refine norm_K fun K hK => ?_
  change wpList _ _ _ [_, _, _, _, _, _] _ _
  have hb1 : Below (w.alloc (.cells #[.int .i64 p, .slice a st.length c] 32)).heap.size (w.alloc (.cells #[.int .i64 p, .slice a st.length c] 32)) (w.alloc (.cells #[.int .i64 p, .slice a st.length c] 32)).drew := (by repeat (first | exact .refl _ _ | apply bwD | apply bwA | (refine bwS ?_ (by first | omega | simp <;> omega) _) | refine bwC ?_ (by assumption)))
  have hs := hs.below hb1; have hc := kept hb1 hc; have d0 := kept hb1 d0; have d1 := kept hb1 d1
  go_wp2_with fail
  refine (dfield_c).mono ?_; rintro e w2 ⟨rfl, hb2⟩
  have hs := hs.below hb2; have hc := kept hb2 hc; have d0 := kept hb2 d0; have d1 := kept hb2 d1
  go_wp2_with fail
  have hz0 : Below (w.alloc (.cells #[.int .i64 p, .slice a st.length c] 32)).drew.heap.size (w.alloc (.cells #[.int .i64 p, .slice a st.length c] 32)).drew w2 := (by repeat (first | exact .refl _ _ | apply bwD | apply bwA | (refine bwS ?_ (by first | omega | simp <;> omega) _) | refine bwC ?_ (by assumption)))
  first | (refine hK _ _ ⟨hz0, ?_⟩; clear hK K) | refine ⟨hz0, ?_⟩
  clear hz0
  refine norm_K fun K hK => ?_
  change wpList _ _ _ [_, _] _ _
  go_wp2_with fail
  refine (num_c (by omega) (by omega)).mono ?_; rintro e w3 ⟨rfl, rfl⟩
  go_wp2_with fail
  first | (refine hK _ _ ⟨rfl, ?_⟩; clear hK K) | refine ⟨rfl, ?_⟩
  go_wp2_with fail
  go_ret
  exact ⟨rfl, (by repeat (first | exact .refl _ _ | apply bwD | apply bwA | (refine bwS ?_ (by first | omega | simp <;> omega) _) | refine bwC ?_ (by assumption)))⟩
end Go.Proofs.Ytfcdhdkhfdhjfaa
