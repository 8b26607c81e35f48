/- Texts joined for a claim: DpQ, DpD, LsR. -/
import Derived.Test.YtgcelfnjijhmkaaGreatDpA
import Derived.Test.YtgcelfnjijhmkaaGreatJbb
import Derived.Test.YtgcelfnjijhmkaaGreatHdA
import Derived.Test.YtgcelfnjijhmkaaGreatHeJ
/-
  Draws of a doubling and points of its plane.
-/
namespace Go.Proofs.YtgcelfnjijhmkaaGreat
open Go.RowKit

theorem chg_set {lo hi b k : Nat} {w w' : World} (h : Chg lo hi w w') (h1 : lo ≤ b) (h2 : b < hi) (u : Value) : Chg lo hi w (w'.setCell ⟨b, k, none⟩ u) :=
  h.trans ((Chg.set w' ⟨b, k, none⟩ u).wide (lo' := lo) (hi' := hi) h1 h2)
set_option maxHeartbeats 4000000 in
theorem sl17draw_c {q : Nat} {w : World} (hs : Src w q) :
    Calls Tryz.prog 58 #[.pointer (some ⟨q, 0, none⟩)] w fun e w' => DrD w q 0 17 5 e w' := by
  have hq := hs.lt
  have hbA : Below w.heap.size w (w.alloc (.cells #[.int .i64 0, .slice none 0 0] 26)) := (by repeat (first | exact .refl _ _ | apply bwD | apply bwA | (refine bwS ?_ (by first | omega | simp <;> omega) _) | refine bwC ?_ (by assumption)))
  have hrA : Bd (w.alloc (.cells #[.int .i64 0, .slice none 0 0] 26)) w.heap.size (.int .i64 0) (.slice none 0 0) := heap_alloc_new w _
  have hzA : (w.alloc (.cells #[.int .i64 0, .slice none 0 0] 26)).heap.size = w.heap.size + 1 := by simp
  have hsA := hs.below hbA
  have hcA : Chg q (q + 1) w (w.alloc (.cells #[.int .i64 0, .slice none 0 0] 26)) := Chg.refl.bl hbA
  go_enter Tryz.func58, Tryz.ntmps58
  go_wp2_with fail
  generalize w.alloc (.cells #[.int .i64 0, .slice none 0 0] 26) = W1 at *
  refine (snext_c hsA (by decide) (by decide)).mono ?_; rintro e w2 ⟨x, rfl, hx0, hx1, hs2, hc2, hz2⟩
  have hr := hrA.chg hc2 (.inr (by omega)); have hcw := hcA.trans hc2
  have hx2 : x ≤ 23 := by omega
  have hz : w.heap.size + 1 ≤ w2.heap.size := by omega
  clear hx1 hz2 hzA hc2 hrA hcA hsA
  go_wp2_with fail
  refine (sdrawany_c hs2 (by omega) (by omega)).mono ?_; rintro e w4 ⟨p, v4, st, rfl, hp1, hp2, hl5, ho, hs4, hc4⟩
  have hr := hr.chg hc4 (.inr (by omega)); have hcw := hcw.trans hc4
  clear hc4 hs2
  obtain ⟨av, nv, cv, rfl⟩ := ho.form
  have rc0 := hr.c0; have rc1 := hr.c1; have rf0 := hr.f 0; have rf1 := hr.f 1
  go_wp2_with fail
  refine bodyPost_ret (v := .agg #[.int .i64 p, .slice av nv cv]) (by simp [results, Tryz.results58, go_sem, rc0, rc1]) rfl ?_
  refine ⟨p, _, st, rfl, hp1, hp2, hl5, ?_, ?_, ?_⟩
  · exact ((ho.set_ (p := ⟨w.heap.size, 0, none⟩) (by show w.heap.size < _; omega) _).set_ (p := ⟨w.heap.size, 1, none⟩) (by show w.heap.size < _; omega) _).more_ (by omega)
  · exact hs4.bl (B := q + 1) (((Below.refl _ _).setCell (p := ⟨w.heap.size, 0, none⟩) (by show _ ≤ w.heap.size; omega) _).setCell (p := ⟨w.heap.size, 1, none⟩) (by show _ ≤ w.heap.size; omega) _) (by omega)
  · exact hcw.bl (((Below.refl _ _).setCell (p := ⟨w.heap.size, 0, none⟩) (Nat.le_refl _) _).setCell (p := ⟨w.heap.size, 1, none⟩) (Nat.le_refl _) _)
end Go.Proofs.YtgcelfnjijhmkaaGreat
/-
  Draws of a doubling and one point.
-/
namespace Go.Proofs.YtgcelfnjijhmkaaGreat
open Go.RowKit

set_option maxHeartbeats 8000000 in
set_option maxRecDepth 100000 in
theorem sdrawispt_c {v : Value} {n : Nat} {w : World} (hc : Co w w.heap.size v n) :
    Calls Tryz.prog 45 #[v] w fun e w' => DrP1 w e w' := by
  obtain ⟨a, c, rfl, _⟩ := id hc
  go_enter Tryz.func45, Tryz.ntmps45
  go_wp2_with fail
  obtain ⟨W1, hW1⟩ : ∃ x, x = ((w.alloc (.cells #[.int .i64 0, .slice none 0 0] 26)).alloc (.cells #[.slice none 0 0, .slice none 0 0] 31)) := ⟨_, rfl⟩
  have hb1 : Below w.heap.size w W1 := by rw [hW1]; exact (by repeat (first | exact .refl _ _ | apply bwD | apply bwA | (refine bwS ?_ (by first | omega | simp <;> omega) _) | refine bwC ?_ (by assumption)))
  have hz1 : W1.heap.size = w.heap.size + 1 + 1 := by rw [hW1]; simp
  have ra0 : Bd W1 w.heap.size (.int .i64 0) (.slice none 0 0) := by rw [hW1]; exact Bd.below (heap_alloc_new w _) (by repeat (first | exact .refl _ _ | apply bwD | apply bwA | (refine bwS ?_ (by first | omega | simp <;> omega) _) | refine bwC ?_ (by assumption)))
  have ra1 : Bx W1 (w.heap.size + 1) (.slice none 0 0) (.slice none 0 0) := by
    rw [hW1]
    have h := heap_alloc_new (w.alloc (.cells #[.int .i64 0, .slice none 0 0] 26)) (.cells #[.slice none 0 0, .slice none 0 0] 31)
    rw [show (w.alloc (.cells #[.int .i64 0, .slice none 0 0] 26)).heap.size = w.heap.size + 1 by simp] at h
    exact h
  rw [← hW1]; clear hW1
  refine (sfrom_c ((hc.below hb1).wide (by omega))).mono ?_; rintro e w2 ⟨rfl, hs, hz2, hb2⟩
  obtain ⟨q, hqe⟩ : ∃ q, q = W1.heap.size := ⟨_, rfl⟩
  rw [← hqe] at hs ⊢
  have hq3 : w.heap.size + 2 ≤ q ∧ q ≤ w.heap.size + 2 := by omega
  have ra0 := ra0.below hb2
  have ra1 := ra1.below hb2
  have hbw := hb1.trans (hb2.mono (by omega))
  have hzz : q + 1 ≤ w2.heap.size := by omega
  clear hqe hz1 hz2
  go_wp2_with fail
  refine (sl17draw_c hs).mono ?_; rintro e w3 ⟨p, v3, st, rfl, hp1, hp2, hl5, ho, hs, hc3⟩
  have ra0 := ra0.chg hc3 (.inl (by omega)); have ra1 := ra1.chg hc3 (.inl (by omega)); have hbw := below_bchg hbw hc3 (by omega) hbw.size; have hzz := Nat.le_trans hzz hc3.size
  have hE := (ho.elr).more (B' := q + 1) (by omega)
  obtain ⟨av, nv, cv, rfl⟩ := ho.form
  obtain rfl : nv = st.length := ho.len
  clear ho hc3
  go_wp2_with fail
  have hb5 : Below w3.heap.size w3 (w3.alloc (.cells #[.int .i64 p, .slice av st.length cv] 26)) := (by repeat (first | exact .refl _ _ | apply bwD | apply bwA | (refine bwS ?_ (by first | omega | simp <;> omega) _) | refine bwC ?_ (by assumption)))
  have hd : Bd (w3.alloc (.cells #[.int .i64 p, .slice av st.length cv] 26)) w3.heap.size (.int .i64 p) (.slice av st.length cv) := heap_alloc_new _ _
  obtain ⟨M, hM⟩ : ∃ M, M = w3.heap.size := ⟨_, rfl⟩
  obtain ⟨W5, hW5⟩ : ∃ x, x = (w3.alloc (.cells #[.int .i64 p, .slice av st.length cv] 26)) := ⟨_, rfl⟩
  rw [← hW5] at hb5 hd ⊢
  rw [← hM] at hd ⊢
  have hMl : q + 1 ≤ M := by omega
  clear hM hW5
  have ra0 := ra0.below hb5; have ra1 := ra1.below hb5; have hbw := hbw.trans (hb5.mono hbw.size); have hzz := Nat.le_trans hzz hb5.size
  have hs := hs.below hb5
  have hE := hE.below hb5
  clear hb5
  go_upto_region 3 with fail
  have hbq_ : Below W5.heap.size W5 W5.drew := (by repeat (first | exact .refl _ _ | apply bwD | apply bwA | (refine bwS ?_ (by first | omega | simp <;> omega) _) | refine bwC ?_ (by assumption)))
  have ra0 := ra0.below hbq_; have ra1 := ra1.below hbq_; have hbw := hbw.trans (hbq_.mono hbw.size); have hzz := Nat.le_trans hzz hbq_.size
  have hs := hs.below hbq_
  have hd := hd.below hbq_
  have hE := hE.below hbq_
  clear hbq_
  refine @region_flowR ⟨w.heap.size, q + 1⟩ _ [(false, [(0, 1), (1, 0), (2, 1), (3, 5)]), (false, [(4, 4), (5, 4)])] _ _ _ _ _ (by kernel_rfl) ?_
  refine norm_K fun K hK => ?_
  change wpList _ _ _ [_, _, _, _] _ _
  generalize W5.drew = wq at *
  have hcq : Chg w.heap.size (q + 1) wq wq := Chg.refl
  have d0 := hd.c0; have d1 := hd.c1; have hld := hd
  go_wp2_with fail
  refine (sdrawpt_c hs hE (by omega) hp1 hp2 hl5).mono ?_; rintro e w9 ⟨v_, X, rfl, hVx, hZx, hs, hc_⟩
  have hVx := hVx.more (B' := q + 1) hzz
  have ra0 := ra0.chg hc_ (.inl (by omega)); have ra1 := ra1.chg hc_ (.inl (by omega)); have hbw := below_bchg hbw hc_ (by omega) hbw.size; have hzz := Nat.le_trans hzz hc_.size
  have hd := hd.chg hc_ (.inr (by omega))
  have hE := hE.chg hc_ (by omega)
  obtain ⟨ax, cx, b_x, ex, rfl⟩ := hvr_shape hVx
  have hcq := hcq.trans (hc_.wide (lo' := w.heap.size) (hi' := q + 1) (by omega) (Nat.le_refl _))
  clear hc_
  have r00 := ra0.c0; have r01 := ra0.c1; have f00 := ra0.f 0; have f01 := ra0.f 1; have r10 := ra1.c0; have r11 := ra1.c1; have f10 := ra1.f0; have f11 := ra1.f1
  go_wp2_with fail
  first | (refine hK _ _ ⟨hcq, ?_⟩; clear hK K) | refine ⟨hcq, ?_⟩
  refine norm_K fun K hK => ?_
  change wpList _ _ _ [_, _] _ _
  go_wp2_with fail
  first | (refine hK _ _ ⟨⟨rfl, ?_⟩, ?_⟩; clear hK K) | refine ⟨⟨rfl, ?_⟩, ?_⟩
  · repeat' (first | exact trivial | exact ⟨_, rfl, (show M < w.heap.size ∨ q + 1 ≤ M by omega), _, _, _, hld⟩ | refine And.intro ?_ ?_)
  go_wp2_with fail
  have hcq : Chg w.heap.size (q + 1) w9 w9 := Chg.refl
  have hCF := (chg_set (chg_set (chg_set (chg_set hcq (b := w.heap.size) (k := 0) (by omega) (by omega) (.int .i64 p)) (b := w.heap.size) (k := 1) (by omega) (by omega) (.slice av st.length cv)) (b := w.heap.size + 1) (k := 0) (by omega) (by omega) (.slice ax X.dg.length cx)) (b := w.heap.size + 1) (k := 1) (by omega) (by omega) (.slice b_x X.up.length ex))
  refine bodyPost_ret (v := .tuple #[.agg #[.int .i64 p, .slice av st.length cv], .agg #[.slice ax X.dg.length cx, .slice b_x X.up.length ex]]) (by simp [results, Tryz.results45, go_sem, r00, r01, r10, r11]) rfl ?_
  exact ⟨p, _, _, st, X, rfl, hp1, hp2, hl5, (hE.chg hCF (by omega)).more (by omega), (hVx.chg hCF (by omega)).more (by omega), hZx, ((below_bchg hbw hCF (Nat.le_refl _) hbw.size))⟩
set_option maxHeartbeats 8000000 in
set_option maxRecDepth 100000 in
theorem sdrawidem_c {v : Value} {n : Nat} {w : World} (hc : Co w w.heap.size v n) :
    Calls Tryz.prog 13 #[v] w fun e w' => DrP1 w e w' := by
  obtain ⟨a, c, rfl, _⟩ := id hc
  go_enter Tryz.func13, Tryz.ntmps13
  go_wp2_with fail
  obtain ⟨W1, hW1⟩ : ∃ x, x = ((w.alloc (.cells #[.int .i64 0, .slice none 0 0] 26)).alloc (.cells #[.slice none 0 0, .slice none 0 0] 31)) := ⟨_, rfl⟩
  have hb1 : Below w.heap.size w W1 := by rw [hW1]; exact (by repeat (first | exact .refl _ _ | apply bwD | apply bwA | (refine bwS ?_ (by first | omega | simp <;> omega) _) | refine bwC ?_ (by assumption)))
  have hz1 : W1.heap.size = w.heap.size + 1 + 1 := by rw [hW1]; simp
  have ra0 : Bd W1 w.heap.size (.int .i64 0) (.slice none 0 0) := by rw [hW1]; exact Bd.below (heap_alloc_new w _) (by repeat (first | exact .refl _ _ | apply bwD | apply bwA | (refine bwS ?_ (by first | omega | simp <;> omega) _) | refine bwC ?_ (by assumption)))
  have ra1 : Bx W1 (w.heap.size + 1) (.slice none 0 0) (.slice none 0 0) := by
    rw [hW1]
    have h := heap_alloc_new (w.alloc (.cells #[.int .i64 0, .slice none 0 0] 26)) (.cells #[.slice none 0 0, .slice none 0 0] 31)
    rw [show (w.alloc (.cells #[.int .i64 0, .slice none 0 0] 26)).heap.size = w.heap.size + 1 by simp] at h
    exact h
  rw [← hW1]; clear hW1
  refine (sdrawispt_c ((hc.below hb1).wide (by omega))).mono ?_; rintro e w2 ⟨p, v, x, st, X, rfl, hp1, hp2, hl5, hE, hVx, hZx, hb2⟩
  have hbw := hb1.trans (hb2.mono (by omega))
  have hz2 : w.heap.size + 1 + 1 ≤ w2.heap.size := by have := hb2.size; omega
  have ra0 := ra0.below hb2; have ra1 := ra1.below hb2
  have hE := hE.more (B' := w.heap.size + 1 + 1) (by omega); have hVx := hVx.more (B' := w.heap.size + 1 + 1) (by omega)
  clear hz1 hb1 hb2
  obtain ⟨av, cv, rfl⟩ := hE.shape
  obtain ⟨ax, cx, b_x, ex, rfl⟩ := hvr_shape hVx
  have r00 := ra0.c0; have r01 := ra0.c1; have f00 := ra0.f 0; have f01 := ra0.f 1; have r10 := ra1.c0; have r11 := ra1.c1; have f10 := ra1.f0; have f11 := ra1.f1
  go_wp2_with fail
  have hcq : Chg w.heap.size (w.heap.size + 1 + 1) w2 w2 := Chg.refl
  have hCF := (chg_set (chg_set (chg_set (chg_set hcq (b := w.heap.size) (k := 0) (by omega) (by omega) (.int .i64 p)) (b := w.heap.size) (k := 1) (by omega) (by omega) (.slice av st.length cv)) (b := w.heap.size + 1) (k := 0) (by omega) (by omega) (.slice ax X.dg.length cx)) (b := w.heap.size + 1) (k := 1) (by omega) (by omega) (.slice b_x X.up.length ex))
  refine bodyPost_ret (v := .tuple #[.agg #[.int .i64 p, .slice av st.length cv], .agg #[.slice ax X.dg.length cx, .slice b_x X.up.length ex]]) (by simp [results, Tryz.results13, go_sem, r00, r01, r10, r11]) rfl ?_
  exact ⟨p, _, _, st, X, rfl, hp1, hp2, hl5, (hE.chg hCF (by omega)).more (by omega), (hVx.chg hCF (by omega)).more (by omega), hZx, ((below_bchg hbw hCF (Nat.le_refl _) hbw.size))⟩
end Go.Proofs.YtgcelfnjijhmkaaGreat
/-
  A row, of its own, of rows that lie from a block upward, apart from it.
-/
namespace Go.Proofs.YtgcelfnjijhmkaaGreat
open Go.RowKit

theorem OwV.chgR {w w' : World} {B lo hi : Nat} {v : Value} {us : List Value} (ho : OwV w B v us) (h : Chg lo hi w w') (hr : hi ≤ B) : OwV w' B v us :=
  ownsRow_chg h ho (fun g hg => .inr (Nat.le_trans hr (OwV.lt ho g hg).1))
theorem OwV.formR {w : World} {B : Nat} {v : Value} {us : List Value} (h : OwV w B v us) : ∃ a c, v = .slice a us.length c := by
  rcases h.2 with h2 | ⟨g', cap', cur, rfl, _⟩
  · have := h2.2
    cases us with
    | nil => exact ⟨_, _, h2.1⟩
    | cons x r => simp at this
  · exact ⟨_, _, rfl⟩
theorem OwV.cellsR {w : World} {B : Nat} {v : Value} {us : List Value} (h : OwV w B v us) (h0 : 0 < us.length) : ∃ g cap, v = .slice (some ⟨g, 0, none⟩) us.length cap ∧ us.length ≤ cap ∧ cap ≤ 9223372036854775807 ∧ B ≤ g ∧ g < w.heap.size ∧ ∀ j (hj : j < us.length), w.cell? ⟨g, j, none⟩ = some us[j] := by
  obtain ⟨g, cap, rfl, _⟩ := World.ownsRow.form h h0
  have hlt := h.lt g rfl
  rcases h.2 with h2 | ⟨g', cap', cur, hv, hg', hh, h3, h4, _⟩
  · cases h2.1
  · cases hv
    simp only [maxLen] at h4
    refine ⟨g, cap, rfl, by omega, by omega, hlt.1, hlt.2, fun j hj => ?_⟩
    have := World.ownsRow.cells h (g := g) rfl j us[j] (by simp)
    rw [addz] at this
    exact this
structure LsR (w : World) (B : Nat) (v : Value) (us : List Value) (xss : List (List Int)) : Prop where
  own : OwV w B v us
  len : us.length = xss.length
  els : ∀ j (a : j < us.length) (b : j < xss.length), ElR w B us[j] xss[j]
  ne : ∀ z ∈ us, ∀ b off sp n c, z = .slice (some ⟨b, off, sp⟩) n c → v.ownBlock ≠ some b
section
variable {w w' : World} {B B' : Nat} {v : Value} {us : List Value} {xss : List (List Int)}
theorem OwV.more_ (h : OwV w B v us) (hB : B' ≤ B) : OwV w B' v us := by
  refine ⟨h.1, ?_⟩
  rcases h.2 with h2 | ⟨g, cap, cur, e, h3, h4⟩
  · exact .inl h2
  · exact .inr ⟨g, cap, cur, e, Nat.le_trans hB h3, h4⟩
theorem LsR.nil (w : World) (B : Nat) : LsR w B (.slice none 0 0) [] [] := ⟨OwV.nil _ _, rfl, fun j h => by simp at h, fun z hz => by simp at hz⟩
theorem LsR.new (hB : B ≤ w.heap.size) : LsR (w.alloc (.cells #[] 24)) B (.slice (some ⟨w.heap.size, 0, none⟩) 0 0) [] [] := ⟨OwV.new hB, rfl, fun j h => by simp at h, fun z hz => by simp at hz⟩
theorem LsR.chg {lo hi : Nat} (h : LsR w B v us xss) (hc : Chg lo hi w w') (hr : hi ≤ B) : LsR w' B v us xss := ⟨h.own.chgR hc hr, h.len, fun j a b => (h.els j a b).chg hc hr, h.ne⟩
theorem LsR.below (h : LsR w B v us xss) (hb : Below w.heap.size w w') : LsR w' B v us xss := ⟨h.own.below hb, h.len, fun j a b => (h.els j a b).below hb, h.ne⟩
theorem LsR.more (h : LsR w B v us xss) (hB : B' ≤ B) : LsR w B' v us xss := ⟨h.own.more_ hB, h.len, fun j a b => (h.els j a b).more hB, h.ne⟩
theorem LsR.fresh (h : LsR w B v us xss) {z : Value} {xs : List Int} (hz : ElR w' w.heap.size z xs) : ∀ b off sp n c, z = .slice (some ⟨b, off, sp⟩) n c → v.ownBlock ≠ some b := fun b off sp n c e e2 => by
  have h1 := (hz.2 _ _ _ _ _ e).1
  have := (h.own.lt b e2).2
  omega
theorem LsR.snoc {W : World} (h : LsR W B v us xss) {z nv : Value} {xs : List Int} {g' : Nat} (hz : ElR W B z xs) (hzn : ∀ b off sp n c, z = .slice (some ⟨b, off, sp⟩) n c → v.ownBlock ≠ some b) (hn : nv.ownBlock = some g') (ho : OwV w' B nv (us ++ [z])) (hb : Below B W w') (hg : W.grownBy w' v.ownBlock) (hge : v.ownBlock = some g' ∨ g' = W.heap.size + 1) :
    LsR w' B nv (us ++ [z]) (xss ++ [xs]) := by
  have hk : ∀ {y ys}, ElR W B y ys → (∀ b off sp n c, y = .slice (some ⟨b, off, sp⟩) n c → v.ownBlock ≠ some b) → ElR w' B y ys ∧ ∀ b off sp n c, y = .slice (some ⟨b, off, sp⟩) n c → nv.ownBlock ≠ some b := by
    intro y ys hy hne
    refine ⟨hy.keep hb.size fun b' off sp n c e => ?_, fun b off sp n c e => ?_⟩
    · exact hg.block b' (hy.2 _ _ _ _ _ e).2 (fun e2 => (hne _ _ _ _ _ e) e2.symm)
    · rw [hn]
      rcases hge with e2 | e2
      · rw [← e2]; exact hne b off sp n c e
      · have := (hy.2 _ _ _ _ _ e).2
        intro e3; cases e3; omega
  refine ⟨ho, by simp [h.len], fun j a b => ?_, fun y hy => ?_⟩
  · rw [List.length_append] at a
    simp at a
    by_cases hj : j < us.length
    · have := h.len
      rw [List.getElem_append_left hj, List.getElem_append_left (by omega)]
      exact (hk (h.els j hj (by omega)) (h.ne _ (List.getElem_mem hj))).1
    · obtain rfl : j = us.length := by omega
      have e := h.len
      have h1 : (us ++ [z])[us.length]'(by simp) = z := by simp
      have h2 : (xss ++ [xs])[us.length]'(by simp [e]) = xs := by simp [e]
      rw [h1, h2]; exact (hk hz hzn).1
  · rcases List.mem_append.1 hy with hy | hy
    · obtain ⟨j, hj, rfl⟩ := List.getElem_of_mem hy
      exact (hk (h.els j hj (by have := h.len; omega)) (h.ne _ hy)).2
    · rw [List.mem_singleton.1 hy]; exact (hk hz hzn).2
theorem LsR.rer (h : LsR w B v us xss) : ReR w B v xss := by
  cases us with
  | nil =>
    have hul := h.len
    cases xss with
    | cons x r => simp at hul
    | nil =>
      rcases h.own.2 with h2 | ⟨g', cap', cur, rfl, _, _, _, h4, _⟩
      · rw [h2.1]; exact ⟨none, 0, rfl, Nat.le_refl _, by decide, .inl rfl⟩
      · simp only [maxLen] at h4
        exact ⟨_, cap', rfl, by simp, by omega, .inl rfl⟩
  | cons z r =>
    obtain ⟨g, cap, rfl, h1, h2, h3, _, h4⟩ := h.own.cellsR (by simp)
    have hul := h.len
    have hx1 : xss.length ≤ cap := by omega
    refine ⟨_, cap, by rw [hul], hx1, h2, .inr ⟨g, 0, rfl, h3, fun j hj => ?_⟩⟩
    have hj2 : j < xss.length := hj
    have hj3 : j < (z :: r).length := by omega
    exact ⟨(z :: r)[j]'hj3, by rw [Nat.zero_add]; exact h4 j hj3, h.els j hj3 hj2⟩
theorem LsR.form (h : LsR w B v us xss) : ∃ a c, v = .slice a us.length c := h.own.formR
theorem LsR.get (h : LsR w B v us xss) {j : Nat} (hj : j < xss.length) : ∃ g cap u, v = .slice (some ⟨g, 0, none⟩) us.length cap ∧ B ≤ g ∧ g < w.heap.size ∧ (∃ cs T fr, w.heap[g]? = some (.cells cs T fr)) ∧ w.cell? ⟨g, j, none⟩ = some u ∧ ElR w B u xss[j] := by
  have hul := h.len
  obtain ⟨g, cap, e, _, _, h3, h4, h5⟩ := h.own.cellsR (by omega)
  rcases h.own.2 with ⟨_, h6⟩ | ⟨g2, cap2, cur, e2, hg, hh, _⟩
  · omega
  · rw [e] at e2; cases e2
    exact ⟨g, cap, us[j], e, h3, h4, ⟨_, _, _, hh⟩, h5 j (by omega), h.els j (by omega) hj⟩
end
end Go.Proofs.YtgcelfnjijhmkaaGreat
