/-
  The laws' helpers over doublings and hermitian matrices: comparison of what is equal.
-/
import Derived.Test.YtmplpoccalccoaaLawH
namespace Go.Proofs.Ytmplpoccalccoaa
open Go.RowKit

theorem farc {w w' : World} {row : Option Nat} (hg : w.grownBy w' row) {b o : Nat} {v : Value} (h : w.cell? ⟨b, o, none⟩ = some v) (hne : some b ≠ row) : w'.cell? ⟨b, o, none⟩ = some v :=
  hg.cell h hne
theorem eqs_c {x y : Value} {xs : List Int} {w : World} (hx : Sl w x xs) (hy : Sl w y xs) (hm : xs.length ≤ 1048576) :
    Calls Try.prog 49 #[x, y] w fun e w' => e = .returned (.bool true) ∧ Below w.heap.size w w' := by
  have h := eq_c hx hy hm
  rwa [decide_eq_true rfl] at h
theorem eqss_c {x y : Value} {xss : List (List Int)} {w : World} (hx : Rs w x xss) (hy : Rs w y xss) (hm : xss.length ≤ 1048576) (hr : ∀ xs ∈ xss, xs.length ≤ 1048576) :
    Calls Try.prog 25 #[x, y] w fun e w' => e = .returned (.bool true) ∧ Below w.heap.size w w' := by
  obtain ⟨a, c, rfl, hx⟩ := hx
  obtain ⟨a2, c2, rfl, hy⟩ := hy
  rcases hx with rfl | ⟨b, off, rfl, hx⟩
  · go_enter Try.func25, Try.ntmps25
    go_wp2
    refine wp_loop_rounds 1 ?_; rw [rounds_succ]
    go_wp2
    go_ret
    exact ⟨rfl, Below.refl _ _⟩
  rcases hy with rfl | ⟨b2, off2, rfl, hy⟩
  · go_enter Try.func25, Try.ntmps25
    go_wp2
    refine wp_loop_rounds 1 ?_; rw [rounds_succ]
    go_wp2
    go_ret
    exact ⟨rfl, Below.refl _ _⟩
  go_enter Try.func25, Try.ntmps25
  go_wp2
  go_loopw [5] (fun i wr => ∃ m : Nat, m ≤ xss.length ∧ i = .int .i64 m ∧ Below w.heap.size w wr)
    (fun i _ => xss.length - (intOf i).toNat)
  case atStart => exact ⟨0, Nat.zero_le _, rfl, Below.refl _ _⟩
  case round =>
    obtain ⟨m, hm', rfl, hb⟩ := hrel
    by_cases hlt : m < xss.length
    · obtain ⟨u, hc, hs⟩ := hx m hlt
      obtain ⟨u2, hc2, hs2⟩ := hy m hlt
      have hc := kept hb hc
      have hs := hs.below hb
      have hc2 := kept hb hc2
      have hs2 := hs2.below hb
      have hxl := hr _ (List.getElem_mem hlt)
      obtain ⟨q, hq⟩ : ∃ q, q = xss[m] := ⟨_, rfl⟩
      rw [← hq] at hs hs2 hxl
      clear hq
      go_wp2
      refine region_flow [(false, [(0, 0), (1, 0), (2, 0), (3, 1), (4, 0), (5, 0), (6, 0), (7, 1), (8, 4), (9, 0)])] (by kernel_rfl) ?_
      refine norm_K fun K hK => ?_
      change wpList _ _ _ [_, _, _, _, _, _, _, _, _, _] _ _
      go_wp2_with fail
      refine (eqs_c (hs.below (by repeat (first | exact Below.refl _ _ | apply blw_drew | apply blw_alloc | (refine blw_set ?_ (by first | omega | (simp; done) | (simp; omega)) _) | refine below_chain ?_ (by assumption)))) (hs2.below (by repeat (first | exact Below.refl _ _ | apply blw_drew | apply blw_alloc | (refine blw_set ?_ (by first | omega | (simp; done) | (simp; omega)) _) | refine below_chain ?_ (by assumption)))) hxl).mono ?_; rintro e w2 ⟨rfl, hb2⟩
      go_wp2_with fail
      first | (refine hK _ _ ⟨rfl, ?_⟩; clear hK K) | refine ⟨rfl, ?_⟩
      go_wp2
      go_roundw
      case rel => exact ⟨m + 1, by omega, by go_num, below_chain hb.drew hb2⟩
      case measure => simp [intOf]; omega
    · obtain rfl : m = xss.length := by omega
      go_wp2
      go_ret
      exact ⟨rfl, hb⟩
theorem eqd_c {p : Int} {x y : Value} {xs : List Int} {w : World} (hx : Sl w x xs) (hy : Sl w y xs) (hm : xs.length ≤ 1048576) :
    Calls Try.prog 14 #[.agg #[.int .i64 p, x], .agg #[.int .i64 p, y]] w fun e w' => e = .returned (.bool true) ∧ Below w.heap.size w w' := by
  obtain ⟨a, c, rfl, _⟩ := id hx
  obtain ⟨a2, c2, rfl, _⟩ := id hy
  go_enter Try.func14, Try.ntmps14
  have hb0 : Below w.heap.size w ((w.alloc (.cells #[.int .i64 p, .slice a xs.length c] 32)).alloc (.cells #[.int .i64 p, .slice a2 xs.length c2] 32)) := (by repeat (first | exact Below.refl _ _ | apply blw_drew | apply blw_alloc | (refine blw_set ?_ (by first | omega | (simp; done) | (simp; omega)) _) | refine below_chain ?_ (by assumption)))
  have hx := hx.below hb0; have hy := hy.below hb0
  have d0 : ((w.alloc (.cells #[.int .i64 p, .slice a xs.length c] 32)).alloc (.cells #[.int .i64 p, .slice a2 xs.length c2] 32)).cell? ⟨w.heap.size, 0, none⟩ = some (.int .i64 p) := by simp [go_sem]
  have d1 : ((w.alloc (.cells #[.int .i64 p, .slice a xs.length c] 32)).alloc (.cells #[.int .i64 p, .slice a2 xs.length c2] 32)).cell? ⟨w.heap.size, 1, none⟩ = some (.slice a xs.length c) := by simp [go_sem]
  have e0 : ((w.alloc (.cells #[.int .i64 p, .slice a xs.length c] 32)).alloc (.cells #[.int .i64 p, .slice a2 xs.length c2] 32)).cell? ⟨w.heap.size + 1, 0, none⟩ = some (.int .i64 p) := by simp [go_sem]
  have e1 : ((w.alloc (.cells #[.int .i64 p, .slice a xs.length c] 32)).alloc (.cells #[.int .i64 p, .slice a2 xs.length c2] 32)).cell? ⟨w.heap.size + 1, 1, none⟩ = some (.slice a2 xs.length c2) := by simp [go_sem]
  go_wp2_with fail
  refine (eqs_c hx hy hm).mono ?_; rintro e w1 ⟨rfl, hb1⟩
  have hx := hx.below hb1; have hy := hy.below hb1; have d0 := kept hb1 d0; have d1 := kept hb1 d1; have e0 := kept hb1 e0; have e1 := kept hb1 e1
  go_wp2_with fail
  go_ret
  exact ⟨rfl, (by repeat (first | exact Below.refl _ _ | apply blw_drew | apply blw_alloc | (refine blw_set ?_ (by first | omega | (simp; done) | (simp; omega)) _) | refine below_chain ?_ (by assumption)))⟩
end Go.Proofs.Ytmplpoccalccoaa
