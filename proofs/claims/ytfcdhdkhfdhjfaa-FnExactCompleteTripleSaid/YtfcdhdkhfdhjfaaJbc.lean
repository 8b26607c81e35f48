/- Texts joined for a claim: MarkH, MarkI. -/
import Derived.Test.YtfcdhdkhfdhjfaaJba
/-
  The laws' marks on rows of rows, doublings and matrices, and the reading of the marks.
-/
namespace Go.Proofs.Ytfcdhdkhfdhjfaa
open Go.RowKit

theorem cntR_get {k : Int} {xss : List (List Int)} {j : Nat} (h : j < xss.length) (h' : j < (cntR k xss).length) : (cntR k xss)[j] = cnt (k + sumL (xss.take j)) xss[j].length := by
  induction xss generalizing k j with
  | nil => simp at h
  | cons x xs ih =>
    cases j with
    | zero => simp [cntR, sumL]
    | succ j =>
      simp only [List.length_cons] at h
      have h2 : j < xs.length := by omega
      simp only [cntR, List.getElem_cons_succ, List.take_succ_cons, sumL]
      rw [ih h2 (by rw [cntR_len]; exact h2), show k + (x.length : Int) + (sumL (xs.take j) : Int) = k + ((x.length + sumL (xs.take j) : Nat) : Int) by omega]
def RgR (w : World) (lo hi : Nat) (v : Value) (us : List Value) (xss : List (List Int)) : Prop :=
  RowsI w lo hi us xss ∧ ((v = .slice none 0 0 ∧ us = []) ∨ ∃ g cap, v = .slice (some ⟨g, 0, none⟩) us.length cap ∧ (lo ≤ g ∧ g < w.heap.size) ∧ (∀ j (h : j < us.length), w.cell? ⟨g, j, none⟩ = some us[j]) ∧ ∀ z ∈ us, z.ownBlock ≠ some g)
theorem RgR.rs {w : World} {lo hi : Nat} {v : Value} {us : List Value} {xss : List (List Int)} (h : RgR w lo hi v us xss) : Rs w v xss := by
  obtain ⟨h1, h2⟩ := h
  have hl := h1.len
  rcases h2 with ⟨rfl, rfl⟩ | ⟨g, cap, rfl, _, h3, _⟩
  · obtain rfl : xss = [] := List.length_eq_zero_iff.1 (by simpa using hl.symm)
    exact ⟨none, 0, rfl, .inl rfl⟩
  · refine ⟨_, cap, by rw [hl], .inr ⟨g, 0, rfl, fun j hj => ⟨us[j]'(by omega), by rw [Nat.zero_add]; exact h3 j (by omega), (h1.rows j (by omega) hj).sl⟩⟩⟩
theorem markss_c {v : Value} {us : List Value} {xss : List (List Int)} {lo hi : Nat} {k : Int} {w : World} (hv : RgR w lo hi v us xss) (hS : sumL xss ≤ 10000000) (hl : xss.length ≤ 1048576) (h3 : ∀ xs ∈ xss, xs.length ≤ 1048576) (hk0 : 0 ≤ k) (hk : k ≤ 10000000000) :
    Calls Try.prog 14 #[v, .int .i64 k] w fun e w' => e = .returned (.int .i64 (k + sumL xss)) ∧ RgR w' lo hi v us (cntR k xss) ∧ Chg lo hi w w' ∧ (∀ g, g < w.heap.size → (∀ z ∈ us, z.ownBlock ≠ some g) → w'.heap[g]? = w.heap[g]?) := by
  obtain ⟨hr, ⟨rfl, rfl⟩ | ⟨g, cap, rfl, hgs, hc, hne⟩⟩ := hv
  · obtain rfl : xss = [] := List.length_eq_zero_iff.1 (by simpa using hr.len.symm)
    go_enter Try.func14, Try.ntmps14
    go_wp2
    refine wp_loop_rounds 1 ?_; rw [rounds_succ]
    go_wp2
    go_ret
    exact ⟨by simp [sumL], ⟨hr, .inl ⟨rfl, rfl⟩⟩, Chg.refl, fun _ _ _ => rfl⟩
  have hul := hr.len
  have HU := Lib.hid hul; clear hul
  go_enter Try.func14, Try.ntmps14
  go_wp2
  go_loopw [1, 5] (fun q i wr => ∃ m : Nat, m ≤ us.length ∧ i = .int .i64 m ∧ q = .int .i64 (k + sumL (xss.take m)) ∧ RowsI wr lo hi us (cntR k (xss.take m) ++ xss.drop m) ∧ (∀ j (h : j < us.length), wr.cell? ⟨g, j, none⟩ = some us[j]) ∧ Chg lo hi w wr ∧ (∀ g, g < w.heap.size → (∀ z ∈ us, z.ownBlock ≠ some g) → wr.heap[g]? = w.heap[g]?))
    (fun _ i _ => us.length - (intOf i).toNat)
  case atStart => exact ⟨0, Nat.zero_le _, rfl, by simp [sumL], by simpa [cntR] using hr, hc, Chg.refl, fun _ _ _ => rfl⟩
  case round =>
    obtain ⟨m, hm, rfl, rfl, hrr, hcr, hch, hot⟩ := hrel
    have HOT := Lib.hid hot; clear hot
    have hsb := sumL_take (xss := xss) (m := m)
    by_cases hlt : m < us.length
    · have hlx : m < xss.length := by have := HU.out; omega
      obtain ⟨hst1, hst2⟩ := mark_step (k := k) hlx
      have hmem : xss[m] ∈ xss := List.getElem_mem hlx
      have h3m := h3 _ hmem
      have hrow := hrr.rows m hlt (by rw [← hrr.len]; exact hlt)
      have hidx : (cntR k (xss.take m) ++ xss.drop m)[m]'(by rw [← hrr.len]; exact hlt) = xss[m] := by
        rw [List.getElem_append_right (by rw [cntR_len, List.length_take]; omega)]
        simp only [cntR_len, List.length_take, List.getElem_drop]
        congr 1; omega
      rw [hidx] at hrow
      have hcm := hcr m hlt
      have hzm := hne _ (List.getElem_mem hlt)
      have hmk := fun (W : World) ys (hy : OwI W lo us[m] ys) (hg : wr.grownBy W us[m].ownBlock) => hrr.mark hlt hy hg
      have hzb := hr.hib _ (List.getElem_mem hlt)
      obtain ⟨z, hz⟩ : ∃ z, z = us[m] := ⟨_, rfl⟩
      rw [← hz] at hrow hcm hzm hzb hmk
      obtain ⟨xs, hxs⟩ : ∃ xs, xs = xss[m] := ⟨_, rfl⟩
      rw [← hxs] at hrow hst1 hst2 h3m
      obtain ⟨a9, c9, rfl, _⟩ := id hrow.sl
      obtain ⟨S, hSS⟩ : ∃ S, S = sumL (xss.take m) := ⟨_, rfl⟩
      rw [← hSS] at hsb hst1 hst2 ⊢
      have H1 := Lib.hid hst1; have H2 := Lib.hid hst2; have HH := Lib.hid hz; have HX := Lib.hid hxs; have HSS := Lib.hid hSS
      have HC := Lib.hid hcr; have HHM := Lib.hid hmk
      clear hst1 hst2 hz hxs hSS hidx hcr hmk
      go_wp2_with (go_at_call 37; refine (mark_c hrow (by omega) (by omega) (by omega)).mono ?_; rintro e w1 ⟨rfl, hz1, hg1⟩)
      go_roundw
      case rel =>
        refine ⟨m + 1, by omega, by go_num, by rw [H2.out, show k + ((S + xs.length : Nat) : Int) = k + S + xs.length by omega], ?_, fun j hj => ?_, hch.trans (Chg.grown hg1 (fun j hj => ⟨(hrow.blk j hj).1, hzb j hj⟩)), fun g hg hall => by rw [hg1.block g (Nat.lt_of_lt_of_le hg hch.size) (fun e => hall _ (List.getElem_mem hlt) (by rw [← HH.out]; exact e.symm))]; exact HOT.out g hg hall⟩
        · rw [← H1.out]; exact HHM.out _ _ hz1 hg1
        · have hold := HC.out j hj
          rw [World.cell?_of_block (w := wr) (hg1.block g (World.block_lt_of_cell? wr _ hold) (Ne.symm hzm))]; exact hold
      case measure => simp [intOf]; omega
    · obtain rfl : m = us.length := by omega
      have e1 : xss.take us.length = xss := take_all (by have := HU.out; omega)
      have e2 : xss.drop us.length = [] := List.drop_eq_nil_of_le (by have := HU.out; omega)
      rw [e1, e2, List.append_nil] at hrr
      rw [e1]
      have H1 := Lib.hid e1; clear e1 e2
      go_wp2
      go_ret
      exact ⟨rfl, ⟨hrr, .inr ⟨g, cap, rfl, ⟨hgs.1, Nat.lt_of_lt_of_le hgs.2 hch.size⟩, hcr, hne⟩⟩, hch, HOT.out⟩
theorem heldss_c {v : Value} {xss : List (List Int)} {k : Int} {w : World} (hx : Rs w v (cntR k xss)) (hS : sumL xss ≤ 10000000) (hl : xss.length ≤ 1048576) (h3 : ∀ xs ∈ xss, xs.length ≤ 1048576) (hk0 : 0 ≤ k) (hk : k ≤ 10000000000) :
    Calls Try.prog 38 #[v, .int .i64 k] w fun e w' => e = .returned (.int .i64 (k + sumL xss)) ∧ w = w' := by
  obtain ⟨a, c, rfl, hx⟩ := hx
  rw [cntR_len]
  rcases hx with h0 | ⟨b, off, rfl, hx⟩
  · obtain rfl : xss = [] := by
      have := congrArg List.length h0
      rw [cntR_len] at this
      exact List.length_eq_zero_iff.1 (by simpa using this)
    clear h0
    go_enter Try.func38, Try.ntmps38
    go_wp2
    refine wp_loop_rounds 1 ?_; rw [rounds_succ]
    go_wp2
    go_ret
    exact ⟨by simp [sumL], rfl⟩
  have hc : ∀ j (h : j < xss.length), ∃ u, w.cell? ⟨b, off + j, none⟩ = some u ∧ Sl w u (cnt (k + sumL (xss.take j)) xss[j].length) := fun j hj => by
    obtain ⟨u, h1, h2⟩ := hx j (by rw [cntR_len]; exact hj)
    rw [cntR_get hj] at h2
    exact ⟨u, h1, h2⟩
  clear hx
  go_enter Try.func38, Try.ntmps38
  go_wp2
  go_loop [1, 5] (fun q i => ∃ m : Nat, m ≤ xss.length ∧ i = .int .i64 m ∧ q = .int .i64 (k + sumL (xss.take m)))
    (fun _ i => xss.length - (intOf i).toNat)
  case atStart => exact ⟨0, Nat.zero_le _, rfl, by simp [sumL]⟩
  case round =>
    obtain ⟨m, hm, rfl, rfl⟩ := hrel
    have hsb := sumL_take (xss := xss) (m := m)
    by_cases hlt : m < xss.length
    · obtain ⟨u, hc1, hc2⟩ := hc m hlt
      have hst2 := (mark_step (k := k) hlt).2
      have h3m := h3 _ (List.getElem_mem hlt)
      obtain ⟨n, hn⟩ : ∃ n, n = xss[m].length := ⟨_, rfl⟩
      rw [← hn] at hc2 hst2 h3m
      obtain ⟨S, hSS⟩ : ∃ S, S = sumL (xss.take m) := ⟨_, rfl⟩
      rw [← hSS] at hsb hst2 hc2 ⊢
      obtain ⟨a9, c9, rfl, _⟩ := id hc2
      have H2 := Lib.hid hst2; have HC := Lib.hid hc
      clear hst2 hn hSS hc
      go_wp2_with (go_at_call 60; refine (held_c hc2 (by omega) (by omega) (by omega)).mono ?_; rintro e w1 ⟨rfl, rfl⟩)
      go_round
      case rel => exact ⟨m + 1, by omega, by go_num, by rw [H2.out, show k + ((S + n : Nat) : Int) = k + S + n by omega]⟩
      case measure => simp [intOf]; omega
    · obtain rfl : m = xss.length := by omega
      have e1 : xss.take xss.length = xss := take_all (Nat.le_refl _)
      rw [e1]
      have H1 := Lib.hid e1; clear e1 hc
      go_wp2
      go_ret
      exact ⟨rfl, rfl⟩
end Go.Proofs.Ytfcdhdkhfdhjfaa
/-
  The laws' marks on doublings and matrices.
-/
namespace Go.Proofs.Ytfcdhdkhfdhjfaa
open Go.RowKit

theorem markd_c {p : Int} {x : Value} {xs : List Int} {B : Nat} {k : Int} {w : World} (hx : OwI w B x xs) (hm : xs.length ≤ 1048576) (hk0 : 0 ≤ k) (hk : k ≤ 10000000000) :
    Calls Try.prog 13 #[.agg #[.int .i64 p, x], .int .i64 k] w fun e w' => e = .returned (.int .i64 (k + xs.length)) ∧ OwI w' B x (cnt k xs.length) ∧ (∀ lo hi, (∀ g, x.ownBlock = some g → lo ≤ g ∧ g < hi) → Chg lo hi w w') := by
  obtain ⟨a, c, rfl, _⟩ := id hx.sl
  go_enter Try.func13, Try.ntmps13
  have hx := hx.below (w' := w.alloc (.cells #[.int .i64 p, .slice a xs.length c] 32)) (by repeat (first | exact .refl _ _ | apply bwD | apply bwA | (refine bwS ?_ (by first | omega | simp <;> omega) _) | refine bwC ?_ (by assumption)))
  go_wp2_with (go_at_call 37; refine (mark_c hx hm hk0 (by omega)).mono ?_; rintro e w1 ⟨rfl, h1, hg⟩)
  go_ret
  exact ⟨rfl, h1, fun lo hi hr => (Chg.below (by repeat (first | exact .refl _ _ | apply bwD | apply bwA | (refine bwS ?_ (by first | omega | simp <;> omega) _) | refine bwC ?_ (by assumption)))).trans (Chg.grown hg hr)⟩
theorem OwI.same {w w' : World} {B : Nat} {v : Value} {xs : List Int} (h : OwI w B v xs) (he : ∀ g, g < w.heap.size → v.ownBlock = some g → w'.heap[g]? = w.heap[g]?) : OwI w' B v xs := by
  rcases h with h | ⟨g, cap, cap', rfl, h⟩
  · exact .inl h
  · obtain ⟨cur, hh, hc, ht⟩ := h.row
    exact .inr ⟨g, cap, cap', rfl, OwnI.mk_ h.lt.1 (by rw [he g h.lt.2 rfl]; exact hh) hc ht h.caps.1 h.caps.2⟩
def RgH (w : World) (lo hi : Nat) (v : Value) (X : Her) : Prop := ∃ d u us, v = .agg #[d, u] ∧ OwI w lo d X.dg ∧ RgR w lo hi u us X.up ∧ ∀ g, d.ownBlock = some g → (g < hi ∧ u.ownBlock ≠ some g ∧ ∀ z ∈ us, z.ownBlock ≠ some g)
theorem RgR.below {w w' : World} {lo hi : Nat} {v : Value} {us : List Value} {xss : List (List Int)} (h : RgR w lo hi v us xss) (hb : Below w.heap.size w w') : RgR w' lo hi v us xss := by
  obtain ⟨⟨h1, h2, h3, h4⟩, h5⟩ := h
  refine ⟨⟨h1, fun j a b => (h2 j a b).below hb, h3, h4⟩, ?_⟩
  rcases h5 with h5 | ⟨g, cap, rfl, h6, h7, h8⟩
  · exact .inl h5
  · exact .inr ⟨g, cap, rfl, ⟨h6.1, Nat.lt_of_lt_of_le h6.2 hb.size⟩, fun j a => kept hb (h7 j a), h8⟩
theorem RgR.grown {w w' : World} {lo hi : Nat} {v : Value} {us : List Value} {xss : List (List Int)} {row : Option Nat} (h : RgR w lo hi v us xss) (hg : w.grownBy w' row) (h9 : ∀ g, row = some g → v.ownBlock ≠ some g ∧ ∀ z ∈ us, z.ownBlock ≠ some g) : RgR w' lo hi v us xss := by
  obtain ⟨⟨h1, h2, h3, h4⟩, h5⟩ := h
  refine ⟨⟨h1, fun j a b => ?_, h3, h4⟩, ?_⟩
  · rcases h2 j a b with h | ⟨g, cap, cap', e, h⟩
    · exact .inl h
    · exact .inr ⟨g, cap, cap', e, h.grown hg (fun e2 => (h9 g e2.symm).2 _ (List.getElem_mem a) (by rw [e]; rfl))⟩
  rcases h5 with h5 | ⟨g, cap, rfl, h6, h7, h8⟩
  · exact .inl h5
  · refine .inr ⟨g, cap, rfl, ⟨h6.1, Nat.lt_of_lt_of_le h6.2 hg.size⟩, fun j a => ?_, h8⟩
    rw [World.cell?_of_block (w := w) (hg.block g h6.2 (fun e2 => (h9 g e2.symm).1 rfl))]; exact h7 j a
theorem FrH.rg {w : World} {B : Nat} {v : Value} {X : Her} (h : FrH w B v X) : RgH w B w.heap.size v X := by
  obtain ⟨d, u, us, rfl, h1, h2, h3⟩ := h
  have hbl := h2.blks
  obtain ⟨g0, cap0, e0, hB0, hs0, hc1, hc2⟩ := h2.lt
  obtain ⟨gd, hgd, hgd1, hgd2⟩ := h1.blk
  obtain ⟨g, cap, e1, k1, k2, k3, k4⟩ := id h2
  have hO : OwV w B u us := by rw [e1] at k1 ⊢; exact k1
  refine ⟨d, u, us, rfl, h1.ow (Nat.le_refl _), ⟨⟨k2, fun j a b => (k3 j a b).ow (Nat.le_refl _), fun z hz g hg => ?_, k4.imp fun {a b} hab g ha hb => hab (ha.trans hb.symm)⟩, .inr ⟨g0, cap0, e0, ⟨hB0, hs0⟩, fun j hj => ?_, fun z hz e => ?_⟩⟩, fun g hg => ⟨?_, fun e => ?_, fun z hz e => h3 z hz (e.trans hg.symm)⟩⟩
  · obtain ⟨g', e, _, h⟩ := hbl z hz
    rw [hg] at e; cases e; exact h
  · have := World.ownsRow.cells (show w.ownsRow B 22 1 (.slice (some ⟨g0, 0, none⟩) us.length cap0) us.length us by rw [← e0]; exact hO) (g := g0) rfl j us[j] (by simp)
    rwa [addz] at this
  · obtain ⟨j, hj, rfl⟩ := List.getElem_of_mem hz
    have ha := apart' (k3 j hj (by omega)).own hO
    rw [e0] at ha
    rcases ha with ha | ha
    · cases ha
    · exact ha e.symm
  · rw [hgd] at hg; cases hg; exact hgd2
  · have ha := apart' h1.own hO
    rcases ha with ha | ha
    · rw [ha] at e; cases e
    · exact ha (e.trans hg.symm)
theorem OwH.rg {w : World} {B : Nat} {v : Value} {X : Her} (h : OwH w B v X) : RgH w B w.heap.size v X := by
  rcases h with ⟨rfl, rfl⟩ | h
  · exact ⟨_, _, [], rfl, .inl ⟨rfl, rfl⟩, ⟨⟨rfl, fun j h => by simp at h, fun z hz => by simp at hz, List.Pairwise.nil⟩, .inl ⟨rfl, rfl⟩⟩, fun g hg => by cases hg⟩
  · exact h.rg
theorem RgH.hr {w : World} {lo hi : Nat} {v : Value} {X : Her} (h : RgH w lo hi v X) : Hr w v X := by
  obtain ⟨d, u, us, rfl, h1, h2, _⟩ := h
  exact ⟨d, u, rfl, h1.sl, h2.rs⟩
theorem RgH.below {w w' : World} {lo hi : Nat} {v : Value} {X : Her} (h : RgH w lo hi v X) (hb : Below w.heap.size w w') : RgH w' lo hi v X := by
  obtain ⟨d, u, us, rfl, h1, h2, h3⟩ := h
  exact ⟨d, u, us, rfl, h1.below hb, h2.below hb, h3⟩
theorem RgH.chg {w w' : World} {lo hi lo' hi' : Nat} {v : Value} {X : Her} (h : RgH w lo' hi' v X) (hc : Chg lo hi w w') (hr : hi ≤ lo') : RgH w' lo' hi' v X := by
  obtain ⟨d, u, us, rfl, h1, ⟨⟨k1, k2, k3, k4⟩, h5⟩, h3⟩ := h
  have far : ∀ {v : Value} {xs : List Int}, OwI w lo' v xs → OwI w' lo' v xs := fun ho => OwI.chg hc ho (fun g hg => .inr (Nat.le_trans hr (ho.blk g hg).1))
  refine ⟨d, u, us, rfl, far h1, ⟨⟨k1, fun j a b => far (k2 j a b), k3, k4⟩, ?_⟩, h3⟩
  rcases h5 with h5 | ⟨g, cap, rfl, h6, h7, h8⟩
  · exact .inl h5
  · exact .inr ⟨g, cap, rfl, ⟨h6.1, Nat.lt_of_lt_of_le h6.2 hc.size⟩, fun j a => hc.cell (h7 j a) (.inr (by omega)), h8⟩
structure Hs (X : Her) : Prop extends Hsz X where
  sum : sumL X.up ≤ 10000000
end Go.Proofs.Ytfcdhdkhfdhjfaa
