/-
  The laws' marks on doublings and matrices.
-/
import Derived.Test.YtmplpoccalccoaaMarkH
namespace Go.Proofs.Ytmplpoccalccoaa
open Go.RowKit

theorem markd_c {p : Int} {x : Value} {xs : List Int} {B : Nat} {k : Int} {w : World} (hx : OwI w B x xs) (hm : xs.length ≤ 1048576) (hk0 : 0 ≤ k) (hk : k ≤ 10000000000) :
    Calls Try.prog 26 #[.agg #[.int .i64 p, x], .int .i64 k] w fun e w' => e = .returned (.int .i64 (k + xs.length)) ∧ OwI w' B x (cnt k xs.length) ∧ (∀ lo hi, (∀ g, x.ownBlock = some g → lo ≤ g ∧ g < hi) → Chg lo hi w w') := by
  obtain ⟨a, c, rfl, _⟩ := id hx.sl
  go_enter Try.func26, Try.ntmps26
  have hx := hx.below (w' := w.alloc (.cells #[.int .i64 p, .slice a xs.length c] 32)) (by repeat (first | exact Below.refl _ _ | apply blw_drew | apply blw_alloc | (refine blw_set ?_ (by first | omega | (simp; done) | (simp; omega)) _) | refine below_chain ?_ (by assumption)))
  go_wp2_with (go_at_call 67; refine (mark_c hx hm hk0 (by omega)).mono ?_; rintro e w1 ⟨rfl, h1, hg⟩)
  go_ret
  exact ⟨rfl, h1, fun lo hi hr => (Chg.below (by repeat (first | exact Below.refl _ _ | apply blw_drew | apply blw_alloc | (refine blw_set ?_ (by first | omega | (simp; done) | (simp; omega)) _) | refine below_chain ?_ (by assumption)))).trans (Chg.grown hg hr)⟩
theorem OwI.same {w w' : World} {B : Nat} {v : Value} {xs : List Int} (h : OwI w B v xs) (he : ∀ g, g < w.heap.size → v.ownBlock = some g → w'.heap[g]? = w.heap[g]?) : OwI w' B v xs := by
  rcases h with h | ⟨g, cap, cap', rfl, h⟩
  · exact .inl h
  · obtain ⟨cur, hh, hc, ht⟩ := h.row
    exact .inr ⟨g, cap, cap', rfl, OwnI.mk_ h.lt.1 (by rw [he g h.lt.2 rfl]; exact hh) hc ht h.caps.1 h.caps.2⟩
/-- A matrix with all its blocks between lo and hi. -/
def RgH (w : World) (lo hi : Nat) (v : Value) (X : Her) : Prop := ∃ d u us, v = .agg #[d, u] ∧ OwI w lo d X.dg ∧ RgR w lo hi u us X.up ∧ ∀ g, d.ownBlock = some g → (g < hi ∧ u.ownBlock ≠ some g ∧ ∀ z ∈ us, z.ownBlock ≠ some g)
theorem RgR.below {w w' : World} {lo hi : Nat} {v : Value} {us : List Value} {xss : List (List Int)} (h : RgR w lo hi v us xss) (hb : Below w.heap.size w w') : RgR w' lo hi v us xss := by
  obtain ⟨⟨h1, h2, h3, h4⟩, h5⟩ := h
  refine ⟨⟨h1, fun j a b => (h2 j a b).below hb, h3, h4⟩, ?_⟩
  rcases h5 with h5 | ⟨g, cap, rfl, h6, h7, h8⟩
  · exact .inl h5
  · exact .inr ⟨g, cap, rfl, ⟨h6.1, Nat.lt_of_lt_of_le h6.2 hb.size⟩, fun j a => kept hb (h7 j a), h8⟩
theorem RgR.grown {w w' : World} {lo hi : Nat} {v : Value} {us : List Value} {xss : List (List Int)} {row : Option Nat} (h : RgR w lo hi v us xss) (hg : w.grownBy w' row) (h9 : ∀ g, row = some g → v.ownBlock ≠ some g ∧ ∀ z ∈ us, z.ownBlock ≠ some g) : RgR w' lo hi v us xss := by
  obtain ⟨⟨h1, h2, h3, h4⟩, h5⟩ := h
  refine ⟨⟨h1, fun j a b => ?_, h3, h4⟩, ?_⟩
  · rcases h2 j a b with h | ⟨g, cap, cap', e, h⟩
    · exact .inl h
    · exact .inr ⟨g, cap, cap', e, h.grown hg (fun e2 => (h9 g e2.symm).2 _ (List.getElem_mem a) (by rw [e]; rfl))⟩
  rcases h5 with h5 | ⟨g, cap, rfl, h6, h7, h8⟩
  · exact .inl h5
  · refine .inr ⟨g, cap, rfl, ⟨h6.1, Nat.lt_of_lt_of_le h6.2 hg.size⟩, fun j a => ?_, h8⟩
    rw [World.cell?_of_block (w := w) (hg.block g h6.2 (fun e2 => (h9 g e2.symm).1 rfl))]; exact h7 j a
theorem FrH.rg {w : World} {B : Nat} {v : Value} {X : Her} (h : FrH w B v X) : RgH w B w.heap.size v X := by
  obtain ⟨d, u, us, rfl, h1, h2, h3⟩ := h
  have hbl := h2.blks
  obtain ⟨g0, cap0, e0, hB0, hs0, hc1, hc2⟩ := h2.lt
  obtain ⟨gd, hgd, hgd1, hgd2⟩ := h1.blk
  obtain ⟨g, cap, e1, k1, k2, k3, k4⟩ := id h2
  have hO : OwV w B u us := by rw [e1] at k1 ⊢; exact k1
  refine ⟨d, u, us, rfl, h1.ow (Nat.le_refl _), ⟨⟨k2, fun j a b => (k3 j a b).ow (Nat.le_refl _), fun z hz g hg => ?_, k4.imp fun {a b} hab g ha hb => hab (ha.trans hb.symm)⟩, .inr ⟨g0, cap0, e0, ⟨hB0, hs0⟩, fun j hj => ?_, fun z hz e => ?_⟩⟩, fun g hg => ⟨?_, fun e => ?_, fun z hz e => h3 z hz (e.trans hg.symm)⟩⟩
  · obtain ⟨g', e, _, h⟩ := hbl z hz
    rw [hg] at e; cases e; exact h
  · have := World.ownsRow.cells (show w.ownsRow B 22 1 (.slice (some ⟨g0, 0, none⟩) us.length cap0) us.length us by rw [← e0]; exact hO) (g := g0) rfl j us[j] (by simp)
    rwa [addz] at this
  · obtain ⟨j, hj, rfl⟩ := List.getElem_of_mem hz
    have ha := apart' (k3 j hj (by omega)).own hO
    rw [e0] at ha
    rcases ha with ha | ha
    · cases ha
    · exact ha e.symm
  · rw [hgd] at hg; cases hg; exact hgd2
  · have ha := apart' h1.own hO
    rcases ha with ha | ha
    · rw [ha] at e; cases e
    · exact ha (e.trans hg.symm)
theorem OwH.rg {w : World} {B : Nat} {v : Value} {X : Her} (h : OwH w B v X) : RgH w B w.heap.size v X := by
  rcases h with ⟨rfl, rfl⟩ | h
  · exact ⟨_, _, [], rfl, .inl ⟨rfl, rfl⟩, ⟨⟨rfl, fun j h => by simp at h, fun z hz => by simp at hz, List.Pairwise.nil⟩, .inl ⟨rfl, rfl⟩⟩, fun g hg => by cases hg⟩
  · exact h.rg
theorem RgH.hr {w : World} {lo hi : Nat} {v : Value} {X : Her} (h : RgH w lo hi v X) : Hr w v X := by
  obtain ⟨d, u, us, rfl, h1, h2, _⟩ := h
  exact ⟨d, u, rfl, h1.sl, h2.rs⟩
theorem RgH.below {w w' : World} {lo hi : Nat} {v : Value} {X : Her} (h : RgH w lo hi v X) (hb : Below w.heap.size w w') : RgH w' lo hi v X := by
  obtain ⟨d, u, us, rfl, h1, h2, h3⟩ := h
  exact ⟨d, u, us, rfl, h1.below hb, h2.below hb, h3⟩
theorem RgH.chg {w w' : World} {lo hi lo' hi' : Nat} {v : Value} {X : Her} (h : RgH w lo' hi' v X) (hc : Chg lo hi w w') (hr : hi ≤ lo') : RgH w' lo' hi' v X := by
  obtain ⟨d, u, us, rfl, h1, ⟨⟨k1, k2, k3, k4⟩, h5⟩, h3⟩ := h
  have far : ∀ {v : Value} {xs : List Int}, OwI w lo' v xs → OwI w' lo' v xs := fun ho => OwI.chg hc ho (fun g hg => .inr (Nat.le_trans hr (ho.blk g hg).1))
  refine ⟨d, u, us, rfl, far h1, ⟨⟨k1, fun j a b => far (k2 j a b), k3, k4⟩, ?_⟩, h3⟩
  rcases h5 with h5 | ⟨g, cap, rfl, h6, h7, h8⟩
  · exact .inl h5
  · exact .inr ⟨g, cap, rfl, ⟨h6.1, Nat.lt_of_lt_of_le h6.2 hc.size⟩, fun j a => hc.cell (h7 j a) (.inr (by omega)), h8⟩
structure Hs (X : Her) : Prop extends Hsz X where
  sum : sumL X.up ≤ 10000000
theorem markh_c {v : Value} {X : Her} {lo hi : Nat} {k : Int} {w : World} (hv : RgH w lo hi v X) (hz : Hs X) (hk0 : 0 ≤ k) (hk : k ≤ 1000000000) :
    Calls Try.prog 28 #[v, .int .i64 k] w fun e w' => e = .returned (.int .i64 (k + X.dg.length + sumL X.up)) ∧ Hr w' v ⟨cnt k X.dg.length, cntR (k + X.dg.length) X.up⟩ ∧ Chg lo hi w w' := by
  have hz1 := hz.h1; have hz2 := hz.h2; have hz3 := hz.h3; have hz4 := hz.sum
  obtain ⟨d, u, us, rfl, h1, h2, h3⟩ := hv
  obtain ⟨a, c, rfl, _⟩ := id h1.sl
  obtain ⟨b, e, rfl, _⟩ := id h2.rs
  go_enter Try.func28, Try.ntmps28
  have hb0 : Below w.heap.size w (w.alloc (.cells #[.slice a X.dg.length c, .slice b X.up.length e] 43)) := (by repeat (first | exact Below.refl _ _ | apply blw_drew | apply blw_alloc | (refine blw_set ?_ (by first | omega | (simp; done) | (simp; omega)) _) | refine below_chain ?_ (by assumption)))
  have g1 := h1.below hb0
  have g2 := h2.below hb0
  have e1 : (w.alloc (.cells #[.slice a X.dg.length c, .slice b X.up.length e] 43)).cell? ⟨w.heap.size, 1, none⟩ = some (.slice b X.up.length e) := by simp [go_sem]
  have hblk := h1.blk
  go_wp2_with fail
  refine (mark_c g1 hz1 hk0 (by omega)).mono ?_; rintro e w1 ⟨rfl, m1, hg1⟩
  have g2 := g2.grown hg1 (fun g hg => (h3 g hg).2)
  have e1 : w1.cell? ⟨w.heap.size, 1, none⟩ = some (.slice b X.up.length e) := by
    rw [World.cell?_of_block (w := w.alloc (.cells #[.slice a X.dg.length c, .slice b X.up.length e] 43)) (hg1.block _ (by simp) (fun e2 => by have := (hblk _ e2.symm).2; simp at this))]; exact e1
  have hc1 : Chg lo hi w w1 := (Chg.below hb0).trans (Chg.grown hg1 (fun g hg => ⟨(hblk g hg).1, (h3 g hg).1⟩))
  go_wp2_with fail
  refine (markss_c g2 hz4 hz2 hz3 (by omega) (by omega)).mono ?_; rintro e w2 ⟨rfl, m2, hc2, hot⟩
  have HOT := Lib.hid hot; clear hot
  go_wp2_with fail
  go_ret
  exact ⟨rfl, ⟨_, _, rfl, (m1.same (fun g hg hd => HOT.out g hg (h3 g hd).2.2)).sl, m2.rs⟩, hc1.trans hc2⟩
theorem heldh_c {v : Value} {X : Her} {k : Int} {w : World} (hv : Hr w v ⟨cnt k X.dg.length, cntR (k + X.dg.length) X.up⟩) (hz : Hs X) (hk0 : 0 ≤ k) (hk : k ≤ 1000000000) :
    Calls Try.prog 29 #[v, .int .i64 k] w fun e w' => e = .returned (.int .i64 (k + X.dg.length + sumL X.up)) ∧ Below w.heap.size w w' := by
  have hz1 := hz.h1; have hz2 := hz.h2; have hz3 := hz.h3; have hz4 := hz.sum
  obtain ⟨d, u, rfl, h1, h2⟩ := hv
  obtain ⟨a, c, rfl, _⟩ := id h1
  obtain ⟨b, e, rfl, _⟩ := id h2
  go_enter Try.func29, Try.ntmps29
  have hb0 : Below w.heap.size w (w.alloc (.cells #[.slice a (cnt k X.dg.length).length c, .slice b (cntR (k + X.dg.length) X.up).length e] 43)) := (by repeat (first | exact Below.refl _ _ | apply blw_drew | apply blw_alloc | (refine blw_set ?_ (by first | omega | (simp; done) | (simp; omega)) _) | refine below_chain ?_ (by assumption)))
  have g1 := h1.below hb0
  have g2 := h2.below hb0
  go_wp2_with fail
  refine (held_c g1 hz1 hk0 (by omega)).mono ?_; rintro e w1 ⟨rfl, rfl⟩
  go_wp2_with fail
  refine (heldss_c g2 hz4 hz2 hz3 (by omega) (by omega)).mono ?_; rintro e w1 ⟨rfl, rfl⟩
  go_wp2_with fail
  go_ret
  exact ⟨rfl, (by repeat (first | exact Below.refl _ _ | apply blw_drew | apply blw_alloc | (refine blw_set ?_ (by first | omega | (simp; done) | (simp; omega)) _) | refine below_chain ?_ (by assumption)))⟩
end Go.Proofs.Ytmplpoccalccoaa
