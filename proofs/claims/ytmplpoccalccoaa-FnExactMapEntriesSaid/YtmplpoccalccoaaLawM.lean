/-
  The laws' helpers over rows of rows that are parameters.
-/
import Derived.Test.YtmplpoccalccoaaLawT
namespace Go.Proofs.Ytmplpoccalccoaa
open Go.RowKit

structure Mbig (M : List (List Int)) : Prop where
  h2 : M.length ≤ 9223372036854775807
  h3 : ∀ xs ∈ M, xs.length ≤ 9223372036854775807
structure Msz (M : List (List Int)) : Prop where
  h2 : M.length ≤ 1048576
  h3 : ∀ xs ∈ M, xs.length ≤ 1048576
  sum : sumL M ≤ 10000000
theorem szM_ms {M : List (List Int)} {left : Int} (h0 : 0 ≤ left) (h1 : left ≤ 1048576) (h : ¬ szR left M < 0) : Msz M := by
  unfold szR at h
  split at h
  · exact absurd (by decide) h
  · rename_i h2
    have h3 := szGo_sum (by omega) h
    exact ⟨by omega, szGo_pos (by omega) (by omega) h, by omega⟩
theorem FrR.rs {w : World} {B : Nat} {v : Value} {us : List Value} {xss : List (List Int)} (h : FrR w B v us xss) : Rs w v xss := h.re.rs
theorem FrR.rg {w : World} {B : Nat} {v : Value} {us : List Value} {xss : List (List Int)} (h2 : FrR w B v us xss) : RgR w B w.heap.size v us xss := by
  have hbl := h2.blks
  obtain ⟨g0, cap0, e0, hB0, hs0, hc1, hc2⟩ := h2.lt
  obtain ⟨g, cap, e1, k1, k2, k3, k4⟩ := id h2
  have hO : OwV w B v us := by rw [e1] at k1 ⊢; exact k1
  refine ⟨⟨k2, fun j a b => (k3 j a b).ow (Nat.le_refl _), fun z hz g hg => ?_, k4.imp fun {a b} hab g ha hb => hab (ha.trans hb.symm)⟩, .inr ⟨g0, cap0, e0, ⟨hB0, hs0⟩, fun j hj => ?_, fun z hz e => ?_⟩⟩
  · obtain ⟨g', e, _, h⟩ := hbl z hz
    rw [hg] at e; cases e; exact h
  · have := World.ownsRow.cells (show w.ownsRow B 22 1 (.slice (some ⟨g0, 0, none⟩) us.length cap0) us.length us by rw [← e0]; exact hO) (g := g0) rfl j us[j] (by simp)
    rwa [addz] at this
  · obtain ⟨j, hj, rfl⟩ := List.getElem_of_mem hz
    have ha := apart' (k3 j hj (by omega)).own hO
    rw [e0] at ha
    rcases ha with ha | ha
    · cases ha
    · exact ha e.symm
theorem RgR.chg {w w' : World} {lo hi lo' hi' : Nat} {v : Value} {us : List Value} {xss : List (List Int)} (h : RgR w lo' hi' v us xss) (hc : Chg lo hi w w') (hr : hi ≤ lo') : RgR w' lo' hi' v us xss := by
  obtain ⟨⟨k1, k2, k3, k4⟩, h5⟩ := h
  have far : ∀ {v : Value} {xs : List Int}, OwI w lo' v xs → OwI w' lo' v xs := fun ho => OwI.chg hc ho (fun g hg => .inr (Nat.le_trans hr (ho.blk g hg).1))
  refine ⟨⟨k1, fun j a b => far (k2 j a b), k3, k4⟩, ?_⟩
  rcases h5 with h5 | ⟨g, cap, rfl, h6, h7, h8⟩
  · exact .inl h5
  · exact .inr ⟨g, cap, rfl, ⟨h6.1, Nat.lt_of_lt_of_le h6.2 hc.size⟩, fun j a => hc.cell (h7 j a) (.inr (by omega)), h8⟩
theorem szm_c {x : Value} {M : List (List Int)} {left : Int} {w : World} (hx : Rs w x M) (hb : Mbig M) (h0 : 0 ≤ left) (h1 : left ≤ 1048576) :
    Calls Try.prog 18 #[x, .int .i64 left] w fun e w' => e = .returned (.int .i64 (szR left M)) ∧ Below w.heap.size w w' :=
  (szss_c hx h0 h1 hb.h2 hb.h3).mono fun e w' ⟨h, h2⟩ => ⟨h, by subst h2; exact Below.refl _ _⟩
theorem tom_c {x : Value} {M : List (List Int)} {w : World} (hx : Rs w x M) (hm : Msz M) :
    Calls Try.prog 21 #[x] w fun e w' => ∃ v us, e = .returned v ∧ FrR w' w.heap.size v us M ∧ Below w.heap.size w w' := toss_c hx hm.h2 hm.h3
theorem eqm_c {x y : Value} {M : List (List Int)} {w : World} (hx : Rs w x M) (hy : Rs w y M) (hm : Msz M) :
    Calls Try.prog 25 #[x, y] w fun e w' => e = .returned (.bool true) ∧ Below w.heap.size w w' := eqss_c hx hy hm.h2 hm.h3
theorem markm_c {v : Value} {us : List Value} {M : List (List Int)} {lo hi : Nat} {k : Int} {w : World} (hv : RgR w lo hi v us M) (hm : Msz M) (hk0 : 0 ≤ k) (hk : k ≤ 1000000000) :
    Calls Try.prog 27 #[v, .int .i64 k] w fun e w' => e = .returned (.int .i64 (k + sumL M)) ∧ RgR w' lo hi v us (cntR k M) ∧ Chg lo hi w w' :=
  (markss_c hv hm.sum hm.h2 hm.h3 hk0 (by omega)).mono fun e w' ⟨h1, h2, h3, _⟩ => ⟨h1, h2, h3⟩
end Go.Proofs.Ytmplpoccalccoaa
