/-
  Draws of a doubling and images, or an element.
-/
import Derived.Test.YtgkceadllcjeoaaDpI
namespace Go.Proofs.Ytgkceadllcjeoaa
open Go.RowKit

theorem chg_set_ {lo hi b k : Nat} {w w' : World} (h : Chg lo hi w w') (h1 : lo ≤ b) (h2 : b < hi) (u : Value) : Chg lo hi w (w'.setCell ⟨b, k, none⟩ u) :=
  h.trans ((Chg.set w' ⟨b, k, none⟩ u).wide (lo' := lo) (hi' := hi) h1 h2)
theorem ElR.shape_ {w : World} {B : Nat} {v : Value} {xs : List Int} (h : ElR w B v xs) : ∃ a c, v = .slice a xs.length c := by
  obtain ⟨a, c, rfl, _⟩ := h.1.op
  exact ⟨_, _, rfl⟩
theorem ReR.shape {w : World} {B : Nat} {v : Value} {xss : List (List Int)} (h : ReR w B v xss) : ∃ a c, v = .slice a xss.length c := by
  obtain ⟨a, c, rfl, _⟩ := h
  exact ⟨_, _, rfl⟩
theorem ReR.chg_ {w w' : World} {B lo hi : Nat} {v : Value} {xss : List (List Int)} (h : ReR w B v xss) (hc : Chg lo hi w w') (hr : hi ≤ B) : ReR w' B v xss :=
  h.keep hc.size fun b h1 h2 => hc.block b h2 (.inr (by omega))
theorem ReR.below_ {w w' : World} {B : Nat} {v : Value} {xss : List (List Int)} (h : ReR w B v xss) (hb : Below w.heap.size w w') : ReR w' B v xss := h.keep hb.size fun b _ h2 => hb.block b h2
theorem ReR.nil_ {w : World} {B c : Nat} {a : Option Addr} (hc : c ≤ 9223372036854775807) : ReR w B (.slice a 0 c) [] := ⟨a, c, rfl, Nat.zero_le _, hc, .inl rfl⟩
theorem ReR.cap {w : World} {B n c : Nat} {a : Option Addr} {xss : List (List Int)} (h : ReR w B (.slice a n c) xss) : n = xss.length ∧ xss.length ≤ c ∧ c ≤ 9223372036854775807 := by
  obtain ⟨_, _, e, h1, h2, _⟩ := h
  cases e
  exact ⟨rfl, h1, h2⟩
theorem ReR.tail {w : World} {B c n : Nat} {b off : Nat} {x : List Int} {xss : List (List Int)} (h : ReR w B (.slice (some ⟨b, off, none⟩) n c) (x :: xss)) : ReR w B (.slice (some ⟨b, off + 1, none⟩) (n - 1) (c - 1)) xss := by
  obtain ⟨a, c', e, h1, h2, h3⟩ := h
  cases e
  rw [List.length_cons] at h1
  refine ⟨some ⟨b, off + 1, none⟩, c - 1, by simp, by omega, by omega, ?_⟩
  rcases h3 with h3 | ⟨b', off', e, hB, h3⟩
  · cases h3
  · cases e
    refine .inr ⟨b, off + 1, rfl, hB, fun j hj => ?_⟩
    obtain ⟨u, hu, he⟩ := h3 (j + 1) (by rw [List.length_cons]; omega)
    exact ⟨u, by rw [show off + 1 + j = off + (j + 1) by omega]; exact hu, he⟩
def DrS2 (w : World) (e : Ending) (w' : World) : Prop := ∃ (p : Int) (v l : Value) (st : List Int) (xss : List (List Int)), e = .returned (.tuple #[.agg #[.int .i64 p, v], l]) ∧ 0 ≤ p ∧ p ≤ 17 ∧ st.length ≤ 5 ∧ ElR w' w.heap.size v st ∧ ReR w' w.heap.size l xss ∧ xss.length ≤ 4 ∧ (∀ xs ∈ xss, xs.length ≤ 16) ∧ Below w.heap.size w w'
def DrE1 (w : World) (e : Ending) (w' : World) : Prop := ∃ (p : Int) (v x : Value) (st xs : List Int), e = .returned (.tuple #[.agg #[.int .i64 p, v], x]) ∧ 0 ≤ p ∧ p ≤ 17 ∧ st.length ≤ 5 ∧ ElR w' w.heap.size v st ∧ ElR w' w.heap.size x xs ∧ xs.length ≤ 16 ∧ Below w.heap.size w w'
set_option maxHeartbeats 8000000 in
set_option maxRecDepth 100000 in
theorem sdrawaut_c {v : Value} {n : Nat} {w : World} (hc : Co w w.heap.size v n) :
    Calls Try.prog 6 #[v] w fun e w' => DrS2 w e w' := by
  obtain ⟨a, c, rfl, _⟩ := id hc
  go_enter Try.func6, Try.ntmps6
  go_wp2_with fail
  obtain ⟨W1, hW1⟩ : ∃ x, x = (w.alloc (.cells #[.int .i64 0, .slice none 0 0] 26)) := ⟨_, rfl⟩
  have hb1 : Below w.heap.size w W1 := by rw [hW1]; exact (by repeat (first | exact .refl _ _ | apply bwD | apply bwA | (refine bwS ?_ (by first | omega | simp <;> omega) _) | refine bwC ?_ (by assumption)))
  have hz1 : W1.heap.size = w.heap.size + 1 := by rw [hW1]; simp
  have ra0 : Bd W1 w.heap.size (.int .i64 0) (.slice none 0 0) := by rw [hW1]; exact heap_alloc_new w _
  rw [← hW1]; clear hW1
  refine (sfrom_c ((hc.below hb1).wide (by omega))).mono ?_; rintro e w2 ⟨rfl, hs, hz2, hb2⟩
  obtain ⟨q, hqe⟩ : ∃ q, q = W1.heap.size := ⟨_, rfl⟩
  rw [← hqe] at hs ⊢
  have hq3 : w.heap.size + 1 ≤ q ∧ q ≤ w.heap.size + 1 := by omega
  have ra0 := ra0.below hb2
  have hbw := hb1.trans (hb2.mono (by omega))
  have hzz : q + 1 ≤ w2.heap.size := by omega
  clear hqe hz1 hz2 hb1 hb2
  go_wp2_with fail
  refine (sdrawany_c hs (by decide) (by decide)).mono ?_; rintro e w3 ⟨p, v3, st, rfl, hp1, hp2, hl5, ho, hs, hc3⟩
  have ra0 := ra0.chg hc3 (.inl (by omega)); have hbw := below_bchg hbw hc3 (by omega) hbw.size; have hzz := Nat.le_trans hzz hc3.size
  have hE := (ho.elr).more (B' := q + 1) (by omega)
  obtain ⟨av, nv, cv, rfl⟩ := ho.form
  obtain rfl : nv = st.length := ho.len
  clear ho hc3
  go_wp2_with fail
  have hb5 : Below w3.heap.size w3 (w3.alloc (.cells #[.int .i64 p, .slice av st.length cv] 26)) := (by repeat (first | exact .refl _ _ | apply bwD | apply bwA | (refine bwS ?_ (by first | omega | simp <;> omega) _) | refine bwC ?_ (by assumption)))
  have hd : Bd (w3.alloc (.cells #[.int .i64 p, .slice av st.length cv] 26)) w3.heap.size (.int .i64 p) (.slice av st.length cv) := heap_alloc_new _ _
  obtain ⟨M, hM⟩ : ∃ M, M = w3.heap.size := ⟨_, rfl⟩
  obtain ⟨W5, hW5⟩ : ∃ x, x = (w3.alloc (.cells #[.int .i64 p, .slice av st.length cv] 26)) := ⟨_, rfl⟩
  rw [← hW5] at hb5 hd ⊢
  rw [← hM] at hd ⊢
  have hMl : q + 1 ≤ M := by omega
  clear hM hW5
  have ra0 := ra0.below hb5; have hbw := hbw.trans (hb5.mono hbw.size); have hzz := Nat.le_trans hzz hb5.size
  have hs := hs.below hb5; have hE := hE.below hb5
  clear hb5
  have d0 := hd.c0; have d1 := hd.c1
  go_wp2_with fail
  refine (sdrawim_c hs hE.1 hp1 hp2 hl5).mono ?_; rintro e w6 ⟨v6, us, xss, rfl, hXl, h16, hl, hs, hc6⟩
  have hMs := hd.lt
  have hl := hl.more (B' := q + 1) (by omega); have hE := hE.chg hc6 (by omega); have hd := hd.chg hc6 (.inr (by omega))
  have ra0 := ra0.chg hc6 (.inl (by omega)); have hbw := below_bchg hbw hc6 (by omega) hbw.size; have hzz := Nat.le_trans hzz hc6.size
  clear hc6 d0 d1
  have hRl := hl.rer
  have hX4 : xss.length ≤ 4 := by omega
  have hul := hl.len
  obtain ⟨a6, c6, rfl⟩ := hl.form
  have HUL := Lib.hid (And.intro hul hXl); clear hul hXl
  have fin : ∀ {wx : World} {lv : Value} {yss : List (List Int)}, Bd wx w.heap.size (.int .i64 0) (.slice none 0 0) → ElR wx (q + 1) (.slice av st.length cv) st → ReR wx (q + 1) lv yss → yss.length ≤ 4 → (∀ xs ∈ yss, xs.length ≤ 16) → Below w.heap.size w wx →
      DrS2 w (.returned (.tuple #[.agg #[.int .i64 p, .slice av st.length cv], lv])) ((wx.setCell ⟨w.heap.size, 0, none⟩ (.int .i64 p)).setCell ⟨w.heap.size, 1, none⟩ (.slice av st.length cv)) := by
    intro wx lv yss _ hE hR h4 h16 hb
    have hCF := chg_set_ (chg_set_ (Chg.refl (w := wx)) (lo := w.heap.size) (hi := w.heap.size + 1) (b := w.heap.size) (k := 0) (by omega) (by omega) (.int .i64 p)) (b := w.heap.size) (k := 1) (by omega) (by omega) (.slice av st.length cv)
    exact ⟨p, _, _, st, yss, rfl, hp1, hp2, hl5, (hE.chg hCF (by omega)).more (by omega), (hR.chg_ hCF (by omega)).more (by omega), h4, h16, below_bchg hb hCF (Nat.le_refl _) hb.size⟩
  by_cases h0 : 0 < us.length
  case neg =>
    have h0b : ¬ (0 : Int) < us.length := by omega
    have d0 := hd.c0; have d1 := hd.c1; have r00 := ra0.c0; have r01 := ra0.c1; have f00 := ra0.f 0; have f01 := ra0.f 1
    go_wp2_with fail
    refine bodyPost_ret (v := .tuple #[.agg #[.int .i64 p, .slice av st.length cv], .slice a6 us.length c6]) (by simp [results, Try.results6, go_sem, r00, r01]) rfl ?_
    exact fin ra0 hE hRl hX4 h16 hbw
  have h0b : (0 : Int) < us.length := by omega
  go_wp2_with fail
  refine (snext_c hs (by decide) (by decide)).mono ?_; rintro e w7 ⟨y, rfl, _, _, hs, hc7, hz7_⟩
  have hRl := hRl.chg_ hc7 (by omega); have hl := hl.chg hc7 (by omega); have hE := hE.chg hc7 (by omega); have hd := hd.chg hc7 (.inr (by omega))
  have ra0 := ra0.chg hc7 (.inl (by omega)); have hbw := below_bchg hbw hc7 (by omega) hbw.size; have hzz := Nat.le_trans hzz hc7.size
  clear hc7 hz7_
  have d0 := hd.c0; have d1 := hd.c1; have r00 := ra0.c0; have r01 := ra0.c1; have f00 := ra0.f 0; have f01 := ra0.f 1
  by_cases hy : y = 0
  case neg =>
    have hyb : (y == 0) = false := by simpa using hy
    go_wp2_with fail
    refine bodyPost_ret (v := .tuple #[.agg #[.int .i64 p, .slice av st.length cv], .slice a6 us.length c6]) (by simp [results, Try.results6, go_sem, r00, r01]) rfl ?_
    exact fin ra0 hE hRl hX4 h16 hbw
  subst hy
  obtain ⟨x, yss, rfl⟩ : ∃ x yss, xss = x :: yss := by
    have := HUL.out.1
    cases xss with
    | nil => rw [List.length_nil] at this; omega
    | cons x r => exact ⟨x, r, rfl⟩
  have hY4 : yss.length ≤ 4 := by simp at hX4; omega
  have h16y : ∀ xs ∈ yss, xs.length ≤ 16 := fun xs h => h16 xs (List.mem_cons_of_mem _ h)
  obtain ⟨gl, cl, _, hv, _, hgl, _⟩ := hl.get (j := 0) (by simp)
  cases hv
  have hk1 : us.length ≤ c6 := by have := hRl.cap; omega
  have hk2 : c6 ≤ 9223372036854775807 := hRl.cap.2.2
  have HT := Lib.hid (hRl.tail)
  have HN := Lib.hid (fun (h : us.length = 1) => (by have := HUL.out.1; cases yss with | nil => rfl | cons _ _ => simp at this; omega : yss = []))
  have hk3 : 1 ≤ us.length := h0
  by_cases hcz : c6 - 1 = 0
  case neg =>
    go_wp2_with fail
    refine bodyPost_ret (v := .tuple #[.agg #[.int .i64 p, .slice av st.length cv], .slice (some ⟨gl, 1, none⟩) (us.length - 1) (c6 - 1)]) (by simp [results, Try.results6, go_sem, r00, r01]) rfl ?_
    exact fin ra0 hE HT.out hY4 h16y hbw
  go_wp2_with fail
  refine bodyPost_ret (v := .tuple #[.agg #[.int .i64 p, .slice av st.length cv], .slice (some ⟨gl, 0, none⟩) (us.length - 1) 0]) (by simp [results, Try.results6, go_sem, r00, r01]) rfl ?_
  have hu1 : us.length - 1 = 0 := by omega
  rw [hu1]
  exact fin (yss := []) ra0 hE (ReR.nil_ (by decide)) (by simp) (by simp) hbw
set_option maxHeartbeats 8000000 in
set_option maxRecDepth 100000 in
theorem sdrawconj_c {v : Value} {n : Nat} {w : World} (hc : Co w w.heap.size v n) :
    Calls Try.prog 18 #[v] w fun e w' => DrE1 w e w' := by
  obtain ⟨a, c, rfl, _⟩ := id hc
  go_enter Try.func18, Try.ntmps18
  go_wp2_with fail
  obtain ⟨W1, hW1⟩ : ∃ x, x = (w.alloc (.cells #[.int .i64 0, .slice none 0 0] 26)) := ⟨_, rfl⟩
  have hb1 : Below w.heap.size w W1 := by rw [hW1]; exact (by repeat (first | exact .refl _ _ | apply bwD | apply bwA | (refine bwS ?_ (by first | omega | simp <;> omega) _) | refine bwC ?_ (by assumption)))
  have hz1 : W1.heap.size = w.heap.size + 1 := by rw [hW1]; simp
  have ra0 : Bd W1 w.heap.size (.int .i64 0) (.slice none 0 0) := by rw [hW1]; exact heap_alloc_new w _
  rw [← hW1]; clear hW1
  refine (sfrom_c ((hc.below hb1).wide (by omega))).mono ?_; rintro e w2 ⟨rfl, hs, hz2, hb2⟩
  obtain ⟨q, hqe⟩ : ∃ q, q = W1.heap.size := ⟨_, rfl⟩
  rw [← hqe] at hs ⊢
  have hq3 : w.heap.size + 1 ≤ q ∧ q ≤ w.heap.size + 1 := by omega
  have ra0 := ra0.below hb2
  have hbw := hb1.trans (hb2.mono (by omega))
  have hzz : q + 1 ≤ w2.heap.size := by omega
  clear hqe hz1 hz2 hb1 hb2
  go_wp2_with fail
  refine (snext_c hs (by decide) (by decide)).mono ?_; rintro e w9 ⟨y, rfl, hy0, hy1, hs, hc9, hz9_⟩
  have ra0 := ra0.chg hc9 (.inl (by omega)); have hbw := below_bchg hbw hc9 (by omega) hbw.size; have hzz := Nat.le_trans hzz hc9.size
  have hy2 : y ≤ 5 := by omega
  clear hc9 hz9_ hy1
  go_wp2_with fail
  refine (sdrawany_c hs (by omega) (by omega)).mono ?_; rintro e w3 ⟨p, v3, st, rfl, hp1, hp2, hl5, ho, hs, hc3⟩
  have ra0 := ra0.chg hc3 (.inl (by omega)); have hbw := below_bchg hbw hc3 (by omega) hbw.size; have hzz := Nat.le_trans hzz hc3.size
  have hE := (ho.elr).more (B' := q + 1) (by omega)
  obtain ⟨av, nv, cv, rfl⟩ := ho.form
  obtain rfl : nv = st.length := ho.len
  clear ho hc3
  go_wp2_with fail
  have hb5 : Below w3.heap.size w3 (w3.alloc (.cells #[.int .i64 p, .slice av st.length cv] 26)) := (by repeat (first | exact .refl _ _ | apply bwD | apply bwA | (refine bwS ?_ (by first | omega | simp <;> omega) _) | refine bwC ?_ (by assumption)))
  have hd : Bd (w3.alloc (.cells #[.int .i64 p, .slice av st.length cv] 26)) w3.heap.size (.int .i64 p) (.slice av st.length cv) := heap_alloc_new _ _
  obtain ⟨M, hM⟩ : ∃ M, M = w3.heap.size := ⟨_, rfl⟩
  obtain ⟨W5, hW5⟩ : ∃ x, x = (w3.alloc (.cells #[.int .i64 p, .slice av st.length cv] 26)) := ⟨_, rfl⟩
  rw [← hW5] at hb5 hd ⊢
  rw [← hM] at hd ⊢
  have hMl : q + 1 ≤ M := by omega
  clear hM hW5
  have ra0 := ra0.below hb5; have hbw := hbw.trans (hb5.mono hbw.size); have hzz := Nat.le_trans hzz hb5.size
  have hs := hs.below hb5; have hE := hE.below hb5
  clear hb5
  go_upto_region 3 with fail
  have hbq_ : Below W5.heap.size W5 W5.drew := (by repeat (first | exact .refl _ _ | apply bwD | apply bwA | (refine bwS ?_ (by first | omega | simp <;> omega) _) | refine bwC ?_ (by assumption)))
  have ra0 := ra0.below hbq_; have hbw := hbw.trans (hbq_.mono hbw.size); have hzz := Nat.le_trans hzz hbq_.size
  have hs := hs.below hbq_; have hd := hd.below hbq_; have hE := hE.below hbq_
  clear hbq_
  refine @region_flowR ⟨w.heap.size, q + 1⟩ _ [(false, [(0, 1), (1, 0), (2, 1), (3, 5)]), (false, [(4, 4), (5, 0)])] _ _ _ _ _ (by kernel_rfl) ?_
  refine norm_K fun K hK => ?_
  change wpList _ _ _ [_, _, _, _] _ _
  generalize W5.drew = wq at *
  have hcq : Chg w.heap.size (q + 1) wq wq := Chg.refl
  have d0 := hd.c0; have d1 := hd.c1; have hld := hd
  go_wp2_with fail
  refine (sdrawel_c hs hp1 hp2 hl5).mono ?_; rintro e w10 ⟨v_, xs, rfl, hx16, hx, hs, hc_⟩
  have hx := hx.more (B' := q + 1) hzz
  have hE := hE.chg hc_ (by omega); have hd := hd.chg hc_ (.inr (by omega))
  have ra0 := ra0.chg hc_ (.inl (by omega)); have hbw := below_bchg hbw hc_ (by omega) hbw.size; have hzz := Nat.le_trans hzz hc_.size
  have hcq := hcq.trans (hc_.wide (lo' := w.heap.size) (hi' := q + 1) (by omega) (Nat.le_refl _))
  clear hc_
  obtain ⟨ax, cx, rfl⟩ := hx.shape_
  have r00 := ra0.c0; have r01 := ra0.c1; have f00 := ra0.f 0; have f01 := ra0.f 1
  go_wp2_with fail
  first | (refine hK _ _ ⟨hcq, ?_⟩; clear hK K) | refine ⟨hcq, ?_⟩
  refine norm_K fun K hK => ?_
  change wpList _ _ _ [_, _] _ _
  go_wp2_with fail
  first | (refine hK _ _ ⟨⟨rfl, ?_⟩, ?_⟩; clear hK K) | refine ⟨⟨rfl, ?_⟩, ?_⟩
  · repeat' (first | exact trivial | exact ⟨_, rfl, (show M < w.heap.size ∨ q + 1 ≤ M by omega), _, _, _, hld⟩ | refine And.intro ?_ ?_)
  go_wp2_with fail
  have hCF := chg_set_ (chg_set_ (Chg.refl (w := w10)) (lo := w.heap.size) (hi := w.heap.size + 1) (b := w.heap.size) (k := 0) (by omega) (by omega) (.int .i64 p)) (b := w.heap.size) (k := 1) (by omega) (by omega) (.slice av st.length cv)
  refine bodyPost_ret (v := .tuple #[.agg #[.int .i64 p, .slice av st.length cv], .slice ax xs.length cx]) (by simp [results, Try.results18, go_sem, r00, r01]) rfl ?_
  exact ⟨p, _, _, st, xs, rfl, hp1, hp2, hl5, (hE.chg hCF (by omega)).more (by omega), (hx.chg hCF (by omega)).more (by omega), hx16, below_bchg hbw hCF (Nat.le_refl _) hbw.size⟩
end Go.Proofs.Ytgkceadllcjeoaa
