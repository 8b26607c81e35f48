/-
  Products, norms, traces and elements of the basis: the program's walks over a doubling.
-/
import Derived.Test.YtmplpoccalccoaaDbM
namespace Go.Proofs.Ytmplpoccalccoaa
open Go.RowKit

/-- A doubling with at most three steps, in memory. -/
structure Dok (p : Int) (st : List Int) : Prop where
  hp : IsP p
  hl : st.length ≤ 3
  hs : ∀ s ∈ st, 1 ≤ s ∧ s ≤ p - 1
theorem Dok.of {p : Int} {st : List Int} (h : isD p st = true) (h2 : ¬ 3 < st.length) : Dok p st := by
  obtain ⟨h1, _, h3⟩ := isD_iff.1 h
  exact ⟨h1, by omega, h3⟩
theorem Dok.fp {p : Int} {st : List Int} (h : Dok p st) : Fp p st := fun x hx => by have := h.hs x hx; omega
theorem Dok.fr {p : Int} {st : List Int} (h : Dok p st) : Fp p st.reverse := fun x hx => h.fp x (by simpa using hx)
theorem sz_le {p : Int} {st : List Int} (h : Dok p st) : 1 ≤ sz st.length ∧ sz st.length ≤ 8 :=
  ⟨Nat.pow_pos (by decide), Nat.le_trans (Nat.pow_le_pow_right (by decide) h.hl) (by decide)⟩
theorem times_c {p : Int} {s x y : Value} {st xs ys : List Int} {w : World} (hd : Dok p st) (hs : El w s st) (hx : El w x xs) (hy : El w y ys) (ex : Ev p (sz st.length) xs) (ey : Ev p (sz st.length) ys) :
    Calls Try.prog 46 #[.agg #[.int .i64 p, s], x, y] w fun e w' => ∃ v, e = .returned v ∧ FrI w' w.heap.size v (mulL p st xs ys) ∧ Below w.heap.size w w' := by
  have hp := hd.hp
  have hfr := hd.fr
  have hsz := sz_le hd
  have hlr : st.reverse.length = st.length := by simp
  have hl3 := hd.hl
  have hcon := fun (W : World) (s x y : Value) (hs : El W s st) hx hy => doubled_c st.reverse (w := W) (p := p) (s := s) (x := x) (y := y) (xs := xs) (ys := ys) hp (by omega) (by rw [List.reverse_reverse]; exact hs) hfr hx hy (by rw [hlr]; exact ex) (by rw [hlr]; exact ey)
  obtain ⟨a, c, rfl, _⟩ := id hs.op
  obtain ⟨a1, c1, rfl, _⟩ := id hx.op
  obtain ⟨a2, c2, rfl, _⟩ := id hy.op
  clear hlr hfr
  go_enter Try.func46, Try.ntmps46
  have hb0 : Below w.heap.size w (w.alloc (.cells #[.int .i64 p, .slice a st.length c] 32)) := (by repeat (first | exact Below.refl _ _ | apply blw_drew | apply blw_alloc | (refine blw_set ?_ (by first | omega | (simp; done) | (simp; omega)) _) | refine below_chain ?_ (by assumption)))
  have hs := hs.below hb0; have hx := hx.below hb0; have hy := hy.below hb0
  have d0 : (w.alloc (.cells #[.int .i64 p, .slice a st.length c] 32)).cell? ⟨w.heap.size, 0, none⟩ = some (.int .i64 p) := by simp [go_sem]
  have d1 : (w.alloc (.cells #[.int .i64 p, .slice a st.length c] 32)).cell? ⟨w.heap.size, 1, none⟩ = some (.slice a st.length c) := by simp [go_sem]
  go_wp2_with fail
  refine region_flow [(false, [(0, 1), (2, 0), (3, 1), (4, 0), (5, 0), (1, 5)]), (false, [(6, 4), (7, 0)])] (by kernel_rfl) ?_
  refine norm_K fun K hK => ?_
  change wpList _ _ _ [_, _, _, _, _, _] _ _
  have hb1 : Below (w.alloc (.cells #[.int .i64 p, .slice a st.length c] 32)).heap.size (w.alloc (.cells #[.int .i64 p, .slice a st.length c] 32)) (w.alloc (.cells #[.int .i64 p, .slice a st.length c] 32)).drew := (by repeat (first | exact Below.refl _ _ | apply blw_drew | apply blw_alloc | (refine blw_set ?_ (by first | omega | (simp; done) | (simp; omega)) _) | refine below_chain ?_ (by assumption)))
  have hs := hs.below hb1; have hx := hx.below hb1; have hy := hy.below hb1; have d0 := kept hb1 d0; have d1 := kept hb1 d1
  go_wp2_with fail
  refine (dfield_c).mono ?_; rintro e w2 ⟨rfl, hb2⟩
  have hs := hs.below hb2; have hx := hx.below hb2; have hy := hy.below hb2; have d0 := kept hb2 d0; have d1 := kept hb2 d1
  go_wp2_with fail
  have hz0 : Below (w.alloc (.cells #[.int .i64 p, .slice a st.length c] 32)).drew.heap.size (w.alloc (.cells #[.int .i64 p, .slice a st.length c] 32)).drew w2 := (by repeat (first | exact Below.refl _ _ | apply blw_drew | apply blw_alloc | (refine blw_set ?_ (by first | omega | (simp; done) | (simp; omega)) _) | refine below_chain ?_ (by assumption)))
  first | (refine hK _ _ ⟨hz0, ?_⟩; clear hK K) | refine ⟨hz0, ?_⟩
  clear hz0
  refine norm_K fun K hK => ?_
  change wpList _ _ _ [_, _] _ _
  go_wp2_with fail
  refine (hcon _ _ _ _ hs hx hy).mono ?_; rintro e w3 ⟨z, rfl, hz, hb3⟩
  have hs := hs.below hb3; have hx := hx.below hb3; have hy := hy.below hb3; have d0 := kept hb3 d0; have d1 := kept hb3 d1
  go_wp2_with fail
  first | (refine hK _ _ ⟨rfl, ?_⟩; clear hK K) | refine ⟨rfl, ?_⟩
  go_wp2_with fail
  go_ret
  exact ⟨_, rfl, hz.more (below_le (by repeat (first | exact Below.refl _ _ | apply blw_drew | apply blw_alloc | (refine blw_set ?_ (by first | omega | (simp; done) | (simp; omega)) _) | refine below_chain ?_ (by assumption)))), (by repeat (first | exact Below.refl _ _ | apply blw_drew | apply blw_alloc | (refine blw_set ?_ (by first | omega | (simp; done) | (simp; omega)) _) | refine below_chain ?_ (by assumption)))⟩
end Go.Proofs.Ytmplpoccalccoaa
