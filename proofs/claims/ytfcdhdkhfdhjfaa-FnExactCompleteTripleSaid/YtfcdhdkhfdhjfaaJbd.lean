/- Texts joined for a claim: MarkJ, LawE, LawT, LawM. -/
import Derived.Test.YtfcdhdkhfdhjfaaJbc
import Derived.Test.YtfcdhdkhfdhjfaaLawH
import Derived.Test.YtfcdhdkhfdhjfaaJao
/-
  Sizes of matrices that passed the laws' size check.
-/
namespace Go.Proofs.Ytfcdhdkhfdhjfaa
open Go.RowKit

theorem szGo_sum : ∀ {xss : List (List Int)} {left : Int}, 0 ≤ left → ¬ szGo left xss < 0 → (sumL xss : Int) ≤ left
  | [], left, h0, _ => by simpa [sumL] using h0
  | x :: xs, left, h0, h => by
    rw [szGo_cons] at h
    split at h
    · exact absurd (by decide) h
    · have := szGo_sum (xss := xs) (by omega) h
      simp only [sumL]
      omega
end Go.Proofs.Ytfcdhdkhfdhjfaa
/-
  The laws' helpers over doublings and hermitian matrices: comparison of what is equal.
-/
namespace Go.Proofs.Ytfcdhdkhfdhjfaa
open Go.RowKit

theorem eqs_c {x y : Value} {xs : List Int} {w : World} (hx : Sl w x xs) (hy : Sl w y xs) (hm : xs.length ≤ 1048576) :
    Calls Try.prog 36 #[x, y] w fun e w' => e = .returned (.bool true) ∧ Below w.heap.size w w' := by
  have h := eq_c hx hy hm
  rwa [decide_eq_true rfl] at h
theorem eqss_c {x y : Value} {xss : List (List Int)} {w : World} (hx : Rs w x xss) (hy : Rs w y xss) (hm : xss.length ≤ 1048576) (hr : ∀ xs ∈ xss, xs.length ≤ 1048576) :
    Calls Try.prog 12 #[x, y] w fun e w' => e = .returned (.bool true) ∧ Below w.heap.size w w' := by
  obtain ⟨a, c, rfl, hx⟩ := hx
  obtain ⟨a2, c2, rfl, hy⟩ := hy
  rcases hx with rfl | ⟨b, off, rfl, hx⟩
  · go_enter Try.func12, Try.ntmps12
    go_wp2
    refine wp_loop_rounds 1 ?_; rw [rounds_succ]
    go_wp2
    go_ret
    exact ⟨rfl, Below.refl _ _⟩
  rcases hy with rfl | ⟨b2, off2, rfl, hy⟩
  · go_enter Try.func12, Try.ntmps12
    go_wp2
    refine wp_loop_rounds 1 ?_; rw [rounds_succ]
    go_wp2
    go_ret
    exact ⟨rfl, Below.refl _ _⟩
  go_enter Try.func12, Try.ntmps12
  go_wp2
  go_loopw [5] (fun i wr => ∃ m : Nat, m ≤ xss.length ∧ i = .int .i64 m ∧ Below w.heap.size w wr)
    (fun i _ => xss.length - (intOf i).toNat)
  case atStart => exact ⟨0, Nat.zero_le _, rfl, Below.refl _ _⟩
  case round =>
    obtain ⟨m, hm', rfl, hb⟩ := hrel
    by_cases hlt : m < xss.length
    · obtain ⟨u, hc, hs⟩ := hx m hlt
      obtain ⟨u2, hc2, hs2⟩ := hy m hlt
      have hc := kept hb hc
      have hs := hs.below hb
      have hc2 := kept hb hc2
      have hs2 := hs2.below hb
      have hxl := hr _ (List.getElem_mem hlt)
      obtain ⟨q, hq⟩ : ∃ q, q = xss[m] := ⟨_, rfl⟩
      rw [← hq] at hs hs2 hxl
      clear hq
      go_wp2
      refine region_flow [(false, [(0, 0), (1, 0), (2, 0), (3, 1), (4, 0), (5, 0), (6, 0), (7, 1), (8, 4), (9, 0)])] (by kernel_rfl) ?_
      refine norm_K fun K hK => ?_
      change wpList _ _ _ [_, _, _, _, _, _, _, _, _, _] _ _
      go_wp2_with fail
      refine (eqs_c (hs.below (by repeat (first | exact .refl _ _ | apply bwD | apply bwA | (refine bwS ?_ (by first | omega | simp <;> omega) _) | refine bwC ?_ (by assumption)))) (hs2.below (by repeat (first | exact .refl _ _ | apply bwD | apply bwA | (refine bwS ?_ (by first | omega | simp <;> omega) _) | refine bwC ?_ (by assumption)))) hxl).mono ?_; rintro e w2 ⟨rfl, hb2⟩
      go_wp2_with fail
      first | (refine hK _ _ ⟨rfl, ?_⟩; clear hK K) | refine ⟨rfl, ?_⟩
      go_wp2
      go_roundw
      case rel => exact ⟨m + 1, by omega, by go_num, bwC hb.drew hb2⟩
      case measure => simp [intOf]; omega
    · obtain rfl : m = xss.length := by omega
      go_wp2
      go_ret
      exact ⟨rfl, hb⟩
theorem eqd_c {p : Int} {x y : Value} {xs : List Int} {w : World} (hx : Sl w x xs) (hy : Sl w y xs) (hm : xs.length ≤ 1048576) :
    Calls Try.prog 11 #[.agg #[.int .i64 p, x], .agg #[.int .i64 p, y]] w fun e w' => e = .returned (.bool true) ∧ Below w.heap.size w w' := by
  obtain ⟨a, c, rfl, _⟩ := id hx
  obtain ⟨a2, c2, rfl, _⟩ := id hy
  go_enter Try.func11, Try.ntmps11
  have hb0 : Below w.heap.size w ((w.alloc (.cells #[.int .i64 p, .slice a xs.length c] 32)).alloc (.cells #[.int .i64 p, .slice a2 xs.length c2] 32)) := (by repeat (first | exact .refl _ _ | apply bwD | apply bwA | (refine bwS ?_ (by first | omega | simp <;> omega) _) | refine bwC ?_ (by assumption)))
  have hx := hx.below hb0; have hy := hy.below hb0
  have d0 : ((w.alloc (.cells #[.int .i64 p, .slice a xs.length c] 32)).alloc (.cells #[.int .i64 p, .slice a2 xs.length c2] 32)).cell? ⟨w.heap.size, 0, none⟩ = some (.int .i64 p) := by simp [go_sem]
  have d1 : ((w.alloc (.cells #[.int .i64 p, .slice a xs.length c] 32)).alloc (.cells #[.int .i64 p, .slice a2 xs.length c2] 32)).cell? ⟨w.heap.size, 1, none⟩ = some (.slice a xs.length c) := by simp [go_sem]
  have e0 : ((w.alloc (.cells #[.int .i64 p, .slice a xs.length c] 32)).alloc (.cells #[.int .i64 p, .slice a2 xs.length c2] 32)).cell? ⟨w.heap.size + 1, 0, none⟩ = some (.int .i64 p) := by simp [go_sem]
  have e1 : ((w.alloc (.cells #[.int .i64 p, .slice a xs.length c] 32)).alloc (.cells #[.int .i64 p, .slice a2 xs.length c2] 32)).cell? ⟨w.heap.size + 1, 1, none⟩ = some (.slice a2 xs.length c2) := by simp [go_sem]
  go_wp2_with fail
  refine (eqs_c hx hy hm).mono ?_; rintro e w1 ⟨rfl, hb1⟩
  have hx := hx.below hb1; have hy := hy.below hb1; have d0 := kept hb1 d0; have d1 := kept hb1 d1; have e0 := kept hb1 e0; have e1 := kept hb1 e1
  go_wp2_with fail
  go_ret
  exact ⟨rfl, (by repeat (first | exact .refl _ _ | apply bwD | apply bwA | (refine bwS ?_ (by first | omega | simp <;> omega) _) | refine bwC ?_ (by assumption)))⟩
end Go.Proofs.Ytfcdhdkhfdhjfaa
/-
  What the laws with a matrix as result need beside: results kept over a store into an older block.
-/
namespace Go.Proofs.Ytfcdhdkhfdhjfaa
open Go.RowKit

theorem OwH.set_ {w : World} {B : Nat} {v : Value} {X : Her} (h : OwH w B v X) {p : Addr} (hp : p.block < B) (u : Value) : OwH (w.setCell p u) B v X := by
  rcases h with h | h
  · exact .inl h
  · exact .inr (h.set_ hp u)
theorem OwH.hr {w : World} {B : Nat} {v : Value} {X : Her} (h : OwH w B v X) : Hr w v X := h.hv.hr
theorem Hs.none : Hs ⟨[], []⟩ := ⟨⟨by simp, by simp, fun xs hx => by simp at hx⟩, by simp [sumL]⟩
end Go.Proofs.Ytfcdhdkhfdhjfaa
/-
  The laws' helpers over rows of rows that are parameters.
-/
namespace Go.Proofs.Ytfcdhdkhfdhjfaa
open Go.RowKit

structure Mbig (M : List (List Int)) : Prop where
  h2 : M.length ≤ 9223372036854775807
  h3 : ∀ xs ∈ M, xs.length ≤ 9223372036854775807
structure Msz (M : List (List Int)) : Prop where
  h2 : M.length ≤ 1048576
  h3 : ∀ xs ∈ M, xs.length ≤ 1048576
  sum : sumL M ≤ 10000000
theorem szM_ms {M : List (List Int)} {left : Int} (h0 : 0 ≤ left) (h1 : left ≤ 1048576) (h : ¬ szR left M < 0) : Msz M := by
  unfold szR at h
  split at h
  · exact absurd (by decide) h
  · rename_i h2
    have h3 := szGo_sum (by omega) h
    exact ⟨by omega, szGo_pos (by omega) (by omega) h, by omega⟩
theorem FrR.rs {w : World} {B : Nat} {v : Value} {us : List Value} {xss : List (List Int)} (h : FrR w B v us xss) : Rs w v xss := h.re.rs
theorem FrR.rg {w : World} {B : Nat} {v : Value} {us : List Value} {xss : List (List Int)} (h2 : FrR w B v us xss) : RgR w B w.heap.size v us xss := by
  have hbl := h2.blks
  obtain ⟨g0, cap0, e0, hB0, hs0, hc1, hc2⟩ := h2.lt
  obtain ⟨g, cap, e1, k1, k2, k3, k4⟩ := id h2
  have hO : OwV w B v us := by rw [e1] at k1 ⊢; exact k1
  refine ⟨⟨k2, fun j a b => (k3 j a b).ow (Nat.le_refl _), fun z hz g hg => ?_, k4.imp fun {a b} hab g ha hb => hab (ha.trans hb.symm)⟩, .inr ⟨g0, cap0, e0, ⟨hB0, hs0⟩, fun j hj => ?_, fun z hz e => ?_⟩⟩
  · obtain ⟨g', e, _, h⟩ := hbl z hz
    rw [hg] at e; cases e; exact h
  · have := World.ownsRow.cells (show w.ownsRow B 22 1 (.slice (some ⟨g0, 0, none⟩) us.length cap0) us.length us by rw [← e0]; exact hO) (g := g0) rfl j us[j] (by simp)
    rwa [addz] at this
  · obtain ⟨j, hj, rfl⟩ := List.getElem_of_mem hz
    have ha := apart' (k3 j hj (by omega)).own hO
    rw [e0] at ha
    rcases ha with ha | ha
    · cases ha
    · exact ha e.symm
theorem RgR.chg {w w' : World} {lo hi lo' hi' : Nat} {v : Value} {us : List Value} {xss : List (List Int)} (h : RgR w lo' hi' v us xss) (hc : Chg lo hi w w') (hr : hi ≤ lo') : RgR w' lo' hi' v us xss := by
  obtain ⟨⟨k1, k2, k3, k4⟩, h5⟩ := h
  have far : ∀ {v : Value} {xs : List Int}, OwI w lo' v xs → OwI w' lo' v xs := fun ho => OwI.chg hc ho (fun g hg => .inr (Nat.le_trans hr (ho.blk g hg).1))
  refine ⟨⟨k1, fun j a b => far (k2 j a b), k3, k4⟩, ?_⟩
  rcases h5 with h5 | ⟨g, cap, rfl, h6, h7, h8⟩
  · exact .inl h5
  · exact .inr ⟨g, cap, rfl, ⟨h6.1, Nat.lt_of_lt_of_le h6.2 hc.size⟩, fun j a => hc.cell (h7 j a) (.inr (by omega)), h8⟩
theorem szm_c {x : Value} {M : List (List Int)} {left : Int} {w : World} (hx : Rs w x M) (hb : Mbig M) (h0 : 0 ≤ left) (h1 : left ≤ 1048576) :
    Calls Try.prog 5 #[x, .int .i64 left] w fun e w' => e = .returned (.int .i64 (szR left M)) ∧ Below w.heap.size w w' :=
  (szss_c hx h0 h1 hb.h2 hb.h3).mono fun e w' ⟨h, h2⟩ => ⟨h, by subst h2; exact Below.refl _ _⟩
theorem tom_c {x : Value} {M : List (List Int)} {w : World} (hx : Rs w x M) (hm : Msz M) :
    Calls Try.prog 8 #[x] w fun e w' => ∃ v us, e = .returned v ∧ FrR w' w.heap.size v us M ∧ Below w.heap.size w w' := toss_c hx hm.h2 hm.h3
theorem eqm_c {x y : Value} {M : List (List Int)} {w : World} (hx : Rs w x M) (hy : Rs w y M) (hm : Msz M) :
    Calls Try.prog 12 #[x, y] w fun e w' => e = .returned (.bool true) ∧ Below w.heap.size w w' := eqss_c hx hy hm.h2 hm.h3
theorem markm_c {v : Value} {us : List Value} {M : List (List Int)} {lo hi : Nat} {k : Int} {w : World} (hv : RgR w lo hi v us M) (hm : Msz M) (hk0 : 0 ≤ k) (hk : k ≤ 1000000000) :
    Calls Try.prog 14 #[v, .int .i64 k] w fun e w' => e = .returned (.int .i64 (k + sumL M)) ∧ RgR w' lo hi v us (cntR k M) ∧ Chg lo hi w w' :=
  (markss_c hv hm.sum hm.h2 hm.h3 hk0 (by omega)).mono fun e w' ⟨h1, h2, h3, _⟩ => ⟨h1, h2, h3⟩
end Go.Proofs.Ytfcdhdkhfdhjfaa
