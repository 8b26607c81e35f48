import Derived.Test.YtilgbekffbphgaaGreatHeJ
import Derived.Test.YtilgbekffbphgaaGreatHcR
import Derived.Test.YtilgbekffbphgaaGreatHcQ
namespace Go.Proofs.YtilgbekffbphgaaGreat
open Go.RowKit
structure Drw (w : World) (N : Nat) (dv uv : Value) (us : List Value) (dg : List Int) (up : List (List Int)) : Prop where
 bx : Bx w N dv uv
 od : OwN w (N + 1) dv dg
 ou : OwV w (N + 1) uv us
 ul : us.length = up.length
 rows : ∀ j (h : j < us.length) (h' : j < up.length), ElR w (N + 1) us[j] up[j]
 ne : ∀ z ∈ us, ∀ b off sp n c, z = .slice (some ⟨b, off, sp⟩) n c -> dv.ownBlock ≠ some b /\ uv.ownBlock ≠ some b
theorem OwV.chg {w w' : World} {B lo hi : Nat} {v : Value} {us : List Value} (ho : OwV w B v us) (h : Chg lo hi w w') (hr : hi <= B) : OwV w' B v us :=
 ownsRow_chg h ho (fun g hg => .inr (Nat.le_trans hr (OwV.lt ho g hg).1))
theorem Bx.chg {w w' : World} {b lo hi : Nat} {x y : Value} (h : Bx w b x y) (hc : Chg lo hi w w') (hr : b < lo \/ hi <= b) : Bx w' b x y := by
 have hl := h.lt
 unfold Bx at h ⊢
 rw [hc.block b hl hr]; exact h
theorem OwV.form {w : World} {B : Nat} {v : Value} {us : List Value} (h : OwV w B v us) : ∃ a c, v = .slice a us.length c := by
 rcases h.2 with h2 | ⟨g', cap', cur, rfl, _⟩
 ·have := h2.2
  cases us with
  | nil => exact ⟨_, _, h2.1⟩
  | cons x r => simp at this
 ·exact ⟨_, _, rfl⟩
theorem OwV.cells {w : World} {B : Nat} {v : Value} {us : List Value} (h : OwV w B v us) (h0 : 0 < us.length) : ∃ g cap, v = .slice (some ⟨g, 0, none⟩) us.length cap /\ us.length <= cap /\ cap <= 9223372036854775807 /\ B <= g /\ g < w.heap.size /\ ∀ j (hj : j < us.length), w.cell? ⟨g, j, none⟩ = some us[j] := by
 obtain ⟨g, cap, rfl, _⟩ := World.ownsRow.form h h0
 have hlt := h.lt g rfl
 rcases h.2 with h2 | ⟨g', cap', cur, hv, hg', hh, h3, h4, _⟩
 ·cases h2.1
 ·cases hv
  simp only [maxLen] at h4
  refine ⟨g, cap, rfl, by omega, by omega, hlt.1, hlt.2, fun j hj => ?_⟩
  have := World.ownsRow.cells h (g := g) rfl j us[j] (by simp)
  rw [addz] at this
  exact this
section
variable {w w' : World} {N : Nat} {dv uv : Value} {us : List Value} {dg : List Int} {up : List (List Int)}
theorem Drw.start (h : Bx w N (.slice none 0 0) (.slice none 0 0)) : Drw w N (.slice none 0 0) (.slice none 0 0) [] [] [] := ⟨h, OwN.nil _ _, OwV.nil _ _, rfl, fun j h => by simp at h, fun z hz => by simp at hz⟩
theorem Drw.below (h : Drw w N dv uv us dg up) (hb : Below w.heap.size w w') : Drw w' N dv uv us dg up := ⟨h.bx.below hb, h.od.below hb, h.ou.below hb, h.ul, fun j a b => (h.rows j a b).below hb, h.ne⟩
theorem Drw.chg {lo hi : Nat} (h : Drw w N dv uv us dg up) (hc : Chg lo hi w w') (hr : hi <= N) : Drw w' N dv uv us dg up := ⟨h.bx.chg hc (.inr hr), h.od.chg hc (by omega), h.ou.chg hc (by omega), h.ul, fun j a b => (h.rows j a b).chg hc (by omega), h.ne⟩
theorem Drw.num {W : World} (h : Drw W N dv uv us dg up) {nv : Value} {z : Int} {g' : Nat} (hn : nv.ownBlock = some g') (ho : OwN w' (N + 1) nv (dg ++ [z])) (hb : Below (N + 1) W w') (hg : W.grownBy w' dv.ownBlock) (hge : dv.ownBlock = some g' \/ g' = W.heap.size + 1) :
  Drw (w'.setCell ⟨N, 0, none⟩ nv) N nv uv us (dg ++ [z]) up := by
 refine ⟨(h.bx.bl hb (Nat.lt_succ_self _)).set0 nv, ho.set_ (Nat.lt_succ_self _) _, (h.ou.kept hg (apart' h.od h.ou)).set_ (Nat.lt_succ_self _) _, h.ul, fun j a b => ?_, fun y hy b off sp n c e => ?_⟩
 ·refine ElR.set_ ((h.rows j a b).keep hb.size fun b' off sp n c e => ?_) (Nat.lt_succ_self _) _
  exact hg.block b' ((h.rows j a b).2 _ _ _ _ _ e).2 (fun e2 => (h.ne _ (List.getElem_mem a) _ _ _ _ _ e).1 e2.symm)
 ·refine ⟨?_, (h.ne y hy b off sp n c e).2⟩
  rw [hn]
  rcases hge with e2 | e2
  ·rw [<- e2]; exact (h.ne y hy b off sp n c e).1
  ·obtain ⟨j, hj, rfl⟩ := List.getElem_of_mem hy
   have := ((h.rows j hj (by have := h.ul; omega)).2 _ _ _ _ _ e).2
   intro e3; cases e3; omega
theorem Drw.row {W : World} (h : Drw W N dv uv us dg up) {z nv : Value} {xs : List Int} {g' : Nat} (hz : ElR W (N + 1) z xs) (hzn : ∀ b off sp n c, z = .slice (some ⟨b, off, sp⟩) n c -> dv.ownBlock ≠ some b /\ uv.ownBlock ≠ some b) (hn : nv.ownBlock = some g') (ho : OwV w' (N + 1) nv (us ++ [z])) (hb : Below (N + 1) W w') (hg : W.grownBy w' uv.ownBlock) (hge : uv.ownBlock = some g' \/ g' = W.heap.size + 1) :
  Drw (w'.setCell ⟨N, 1, none⟩ nv) N dv nv (us ++ [z]) dg (up ++ [xs]) := by
 have hk : ∀ {y ys}, ElR W (N + 1) y ys -> (∀ b off sp n c, y = .slice (some ⟨b, off, sp⟩) n c -> dv.ownBlock ≠ some b /\ uv.ownBlock ≠ some b) -> ElR (w'.setCell ⟨N, 1, none⟩ nv) (N + 1) y ys /\ ∀ b off sp n c, y = .slice (some ⟨b, off, sp⟩) n c -> dv.ownBlock ≠ some b /\ nv.ownBlock ≠ some b := by
  intro y ys hy hne
  refine ⟨ElR.set_ (hy.keep hb.size fun b' off sp n c e => ?_) (Nat.lt_succ_self _) _, fun b off sp n c e => ⟨(hne b off sp n c e).1, ?_⟩⟩
  ·exact hg.block b' (hy.2 _ _ _ _ _ e).2 (fun e2 => (hne _ _ _ _ _ e).2 e2.symm)
  ·rw [hn]
   rcases hge with e2 | e2
   ·rw [<- e2]; exact (hne b off sp n c e).2
   ·have := (hy.2 _ _ _ _ _ e).2
    intro e3; cases e3; omega
 refine ⟨(h.bx.bl hb (Nat.lt_succ_self _)).set1 nv, (h.od.kept hg (apart h.od h.ou)).set_ (Nat.lt_succ_self _) _, ho.set_ (Nat.lt_succ_self _) _, by simp [h.ul], fun j a b => ?_, fun y hy => ?_⟩
 ·rw [List.length_append] at a
  simp at a
  by_cases hj : j < us.length
  ·have := h.ul
   rw [List.getElem_append_left hj, List.getElem_append_left (by omega)]
   exact (hk (h.rows j hj (by omega)) (h.ne _ (List.getElem_mem hj))).1
  ·obtain rfl : j = us.length := by omega
   have e := h.ul
   have h1 : (us ++ [z])[us.length]'(by simp) = z := by simp
   have h2 : (up ++ [xs])[us.length]'(by simp [e]) = xs := by simp [e]
   rw [h1, h2]; exact (hk hz hzn).1
 ·rcases List.mem_append.1 hy with hy | hy
  ·obtain ⟨j, hj, rfl⟩ := List.getElem_of_mem hy
   exact (hk (h.rows j hj (by have := h.ul; omega)) (h.ne _ hy)).2
  ·rw [List.mem_singleton.1 hy]; exact (hk hz hzn).2
theorem Drw.fresh (h : Drw w N dv uv us dg up) {z : Value} {xs : List Int} (hz : ElR w' w.heap.size z xs) : ∀ b off sp n c, z = .slice (some ⟨b, off, sp⟩) n c -> dv.ownBlock ≠ some b /\ uv.ownBlock ≠ some b := fun b off sp n c e => by
 have h1 := (hz.2 _ _ _ _ _ e).1
 exact ⟨fun e2 => by have := (h.od.lt b e2).2; omega, fun e2 => by have := (h.ou.lt b e2).2; omega⟩
theorem Drw.hvr (h : Drw w N dv uv us dg up) : HvR w (N + 1) (.agg #[dv, uv]) ⟨dg, up⟩ := by
 refine ⟨dv, uv, rfl, h.od.elr, ?_⟩
 cases us with
 | nil =>
  have hul := h.ul
  cases up with
  | cons x r => simp at hul
  | nil =>
   rcases h.ou.2 with h2 | ⟨g', cap', cur, rfl, _, _, _, h4, _⟩
   ·rw [h2.1]; exact ⟨none, 0, rfl, Nat.le_refl _, by decide, .inl rfl⟩
   ·simp only [maxLen] at h4
    exact ⟨_, cap', rfl, by simp, by omega, .inl rfl⟩
 | cons z r =>
  obtain ⟨g, cap, rfl, h1, h2, h3, _, h4⟩ := h.ou.cells (by simp)
  have hul := h.ul
  have hx1 : up.length <= cap := by omega
  refine ⟨_, cap, by rw [hul], hx1, h2, .inr ⟨g, 0, rfl, h3, fun j hj => ?_⟩⟩
  have hj2 : j < up.length := hj
  have hj3 : j < (z :: r).length := by omega
  exact ⟨(z :: r)[j]'hj3, by rw [Nat.zero_add]; exact h4 j hj3, h.rows j hj3 hj2⟩
theorem Drw.set0 (h : Drw w N dv uv us dg up) {g cap n : Nat} (hdv : dv = .slice (some ⟨g, 0, none⟩) n cap) (hn : dg.length = n) (i : Nat) (z : Int) : Drw (w.setCell ⟨g, i, none⟩ (.int .i64 z)) N dv uv us (dg.set i z) up := by
 subst hdv
 subst hn
 have hoI : OwnI w (N + 1) g dg.length cap dg := h.od
 have hg := hoI.lt
 refine ⟨h.bx.far (p := ⟨g, i, none⟩) (by show N ≠ g; omega) _, ?_, ?_, h.ul, fun j a b => ?_, h.ne⟩
 ·have := hoI.set (i := i) z
  show OwN _ _ _ _
  unfold OwN
  rw [List.length_set]
  exact this
 ·refine ownsRow_chg (Chg.set w ⟨g, i, none⟩ (.int .i64 z)) h.ou fun g' hg' => ?_
  rcases apart' h.od h.ou with e | e
  ·rw [hg'] at e; cases e
  ·have : g' ≠ g := fun e2 => e (by rw [hg', e2]; rfl)
   show g' < g \/ g + 1 <= g'
   omega
 ·refine (h.rows j a b).keep (by simp) fun b' off sp n c e => Below.heap_setCell _ _ _ _ ?_
  have := (h.ne _ (List.getElem_mem a) _ _ _ _ _ e).1
  intro e2
  exact this (by rw [e2]; rfl)
end
theorem le16_snoc {up : List (List Int)} {xs : List Int} (h : ∀ ys ∈ up, ys.length <= 16) (h2 : xs.length <= 16) : ∀ ys ∈ up ++ [xs], ys.length <= 16 := fun ys hy => by
 rcases List.mem_append.1 hy with hy | hy
 ·exact h ys hy
 ·rw [List.mem_singleton.1 hy]; exact h2
def DrH (w : World) (q : Nat) (e : Ending) (w' : World) : Prop := ∃ (v : Value) (X : Her), e = .returned v /\ HvR w' w.heap.size v X /\ Hsz X /\ Src w' q /\ Chg q (q + 1) w w'
theorem HvR.drop {w : World} {B g n cap : Nat} {u : Value} {dg : List Int} {up : List (List Int)} (h : HvR w B (.agg #[.slice (some ⟨g, 0, none⟩) n cap, u]) ⟨dg, up⟩) (hn : dg.length = n) (h0 : 1 <= n) : HvR w B (.agg #[.slice (some ⟨g, 1, none⟩) (n - 1) (cap - 1), u]) ⟨dg.drop 1, up⟩ := by
 subst hn
 obtain ⟨d, u', e, h1, h2⟩ := h
 cases e
 refine ⟨_, _, rfl, ⟨?_, fun b off sp n' c e => ?_⟩, h2⟩
 ·obtain ⟨b, off, c, e, h3, h4, h5⟩ := h1.1.op1 (by show 0 < dg.length; omega)
  cases e
  have h6 : At w g 0 dg := h5
  have hc : dg.length <= cap := h3
  have h := h6.elD (k := 1) (n := dg.length - 1) (c := cap - 1) (by omega) (by omega) (by omega)
  simpa using h
 ·cases e; exact h1.2 g 0 none dg.length cap rfl
theorem adjH_hsz {p : Int} {st : List Int} {X : Her} (hd : Dok p st) (h : isH p (sz st.length) X = true) : Hsz (adjH p st X) := by
 have h2 := adjH_is (by have := hd.hp.lo; omega) h
 obtain ⟨a, b, c, u, v, t, e, _, _, _, _, _, _, hu, hv, ht⟩ := isH_op h2
 rw [e]
 have h16 := pow_le (n := st.length) (by have := hd.hl; omega)
 refine ⟨by show 3 <= _; decide, by show 3 <= _; decide, fun xs hx => ?_⟩
 have hx : xs = u \/ xs = v \/ xs = t := by simpa using hx
 rcases hx with rfl | rfl | rfl
 ·rw [hu.1]; omega
 ·rw [hv.1]; omega
 ·rw [ht.1]; omega
theorem isH_set {p : Int} {n : Nat} {dg : List Int} {up : List (List Int)} {z : Int} (h : isH p n ⟨dg, up⟩ = true) (h0 : 0 <= z) (h1 : z < p) : isH p n ⟨dg.set 0 z, up⟩ = true := by
 unfold isH at h ⊢
 simp only [Bool.and_eq_true, decide_eq_true_eq, isL_fp] at h ⊢
 refine ⟨⟨by rw [List.length_set]; exact h.1.1, fun x hx => ?_⟩, h.2⟩
 rcases List.mem_or_eq_of_mem_set hx with h2 | h2
 ·exact h.1.2 x h2
 ·subst h2; exact ⟨h0, h1⟩
set_option maxHeartbeats 16000000 in
set_option maxRecDepth 100000 in
theorem sdrawone_c {q B : Nat} {p : Int} {x : Value} {st : List Int} {w : World} (hs : Src w q) (hx : ElR w B x st) (hqB : q < B) (hp0 : 0 <= p) (hp1 : p <= 17) (hn : st.length <= 5) :
  Calls Tryz.prog 18 #[.pointer (some ⟨q, 0, none⟩), .agg #[.int .i64 p, x]] w fun e w' => DrH w q e w' := by
 have hq := hs.lt
 obtain ⟨a, c, rfl, _⟩ := id hx.1.op
 go_enter Tryz.func18, Tryz.ntmps18
 go_wp2_with fail
 obtain ⟨W1, hW1⟩ : ∃ y, y = (((w.alloc (.cells #[.int .i64 p, .slice a st.length c] 26)).alloc (.cells #[.slice none 0 0, .slice none 0 0] 29)).alloc (.cells #[.slice none 0 0, .slice none 0 0] 29)) := ⟨_, rfl⟩
 have hb1 : Below w.heap.size w W1 := by rw [hW1]; exact bwT
 have hz1 : W1.heap.size = w.heap.size + 1 + 1 + 1 := by rw [hW1]; simp
 have hd1 : Bd W1 w.heap.size (.int .i64 p) (.slice a st.length c) := by rw [hW1]; exact Bd.below (heap_alloc_new w _) bwT
 have hr1 : Bx W1 (w.heap.size + 1) (.slice none 0 0) (.slice none 0 0) := by
  rw [hW1]
  have h := heap_alloc_new (w.alloc (.cells #[.int .i64 p, .slice a st.length c] 26)) (.cells #[.slice none 0 0, .slice none 0 0] 29)
  rw [show (w.alloc (.cells #[.int .i64 p, .slice a st.length c] 26)).heap.size = w.heap.size + 1 by simp] at h
  exact Bx.below h bwT
 have ho1 : Bx W1 (w.heap.size + 1 + 1) (.slice none 0 0) (.slice none 0 0) := by
  rw [hW1]
  have h := heap_alloc_new ((w.alloc (.cells #[.int .i64 p, .slice a st.length c] 26)).alloc (.cells #[.slice none 0 0, .slice none 0 0] 29)) (.cells #[.slice none 0 0, .slice none 0 0] 29)
  rw [show ((w.alloc (.cells #[.int .i64 p, .slice a st.length c] 26)).alloc (.cells #[.slice none 0 0, .slice none 0 0] 29)).heap.size = w.heap.size + 1 + 1 by simp] at h
  exact h
 rw [<- hW1]; clear hW1
 obtain ⟨N, hN⟩ : ∃ N, N = w.heap.size + 1 + 1 := ⟨_, rfl⟩
 rw [<- hN] at ho1
 refine (snext_c (hs.bl hb1 hq) (by decide) (by decide)).mono ?_; rintro e w2 ⟨few, rfl, _, _, hs2, hc2, hz2⟩
 have o2 := (Drw.start ho1).chg hc2 (by omega); have hd2 := hd1.chg hc2 (.inr (by omega)); have hr2 := hr1.chg hc2 (.inr (by omega))
 have hcw : Chg q (q + 1) w w2 := (Chg.refl.bl hb1).trans hc2
 have hzz : N + 1 <= w2.heap.size := by omega
 clear ho1 hd1 hr1 hb1 hz1 hz2 hc2 hs
 go_wp2_with fail
 rw [<- hN]
 have hNw : w.heap.size + 1 + 1 <= N := by omega
 have hNq : q + 1 <= N := by omega
 have HN := Lib.hid hN; clear hN
 go_loopw [7] (fun iv wr => ∃ (k : Nat) (dv uv : Value) (us : List Value) (dg : List Int) (up : List (List Int)), k <= 3 /\ iv = .int .i64 k /\ dg.length = k /\ up.length = k /\ (∀ xs ∈ up, xs.length <= 16) /\ Drw wr N dv uv us dg up /\ Bd wr w.heap.size (.int .i64 p) (.slice a st.length c) /\ Bx wr (w.heap.size + 1) (.slice none 0 0) (.slice none 0 0) /\ Src wr q /\ Chg q (q + 1) w wr /\ N + 1 <= wr.heap.size) (fun iv _ => 3 - (intOf iv).toNat)
 case atStart => exact ⟨0, _, _, [], [], [], by omega, rfl, rfl, rfl, by simp, o2, hd2, hr2, hs2, hcw, hzz⟩
 case round =>
  clear o2 hd2 hr2 hs2 hcw hzz
  obtain ⟨k, dv, uv, us, dg, up, hk, rfl, hdl, hul, h16, ho, hd, hr, hsr, hcw, hzz⟩ := hrel
  have HL := Lib.hid (And.intro hdl hul); clear hdl hul
  have e0 := hd.c0; have e1 := hd.c1
  by_cases hlt : k < 3
  ·go_wp2_with fail
   all_goals
    refine (snext_c hsr (by omega) (by omega)).mono ?_; rintro e w3 ⟨y, rfl, hy0, hy1, hs3, hc3, hz3⟩
    have ho3 := ho.chg hc3 (by omega); have hd3 := hd.chg hc3 (.inr (by omega)); have hr3 := hr.chg hc3 (.inr (by omega))
    have hcw3 := hcw.trans hc3
    have hzz3 : N + 1 <= w3.heap.size := by omega
    clear ho hd hr hcw hsr hz3
    have e0 := hd3.c0; have e1 := hd3.c1
    go_wp2_with fail
    refine (sdrawel_c hs3 hp0 hp1 hn).mono ?_; rintro e w4 ⟨u, xs, rfl, hxl, hxr, hs4, hc4⟩
    have hz4 := hc4.size
    have hzf := ho3.fresh hxr
    have ho4 := ho3.chg hc4 (by omega); have hd4 := hd3.chg hc4 (.inr (by omega)); have hr4 := hr3.chg hc4 (.inr (by omega))
    have hcw4 := hcw3.trans hc4
    have hzz4 : N + 1 <= w4.heap.size := by omega
    clear ho3 hd3 hr3 hcw3 hs3
    obtain ⟨au, cu, rfl, _⟩ := id hxr.1.op
    by_cases hfew : few = 0
    ·subst hfew
     go_wp2_with fail
     refine (snext_c hs4 (by decide) (by decide)).mono ?_; rintro e w5 ⟨y5, rfl, _, _, hs5, hc5, hz5⟩
     have ho5 := ho4.chg hc5 (by omega); have hd5 := hd4.chg hc5 (.inr (by omega)); have hr5 := hr4.chg hc5 (.inr (by omega))
     have hcw5 := hcw4.trans hc5
     have hzz5 : N + 1 <= w5.heap.size := by omega
     clear ho4 hd4 hr4 hcw4 hs4 hz5
     have hxr5 := hxr.chg hc5 (by omega)
     by_cases hy5 : y5 = 0
     ·subst hy5
      have hmk := fun W => run_make_row' (P := Tryz.prog) 24 2 (.int .i64 0) 8 Tryz.underlying24 infoI rfl .i64 .i64 xs.length (by omega) (by omega) W
      have hnew := made_own (W := w5) (n := xs.length) (by omega)
      have hbn : Below w5.heap.size w5 (w5.alloc (.cells (madeCells #[Value.int .i64 0] xs.length) 2)) := bwT
      have hnr : ElR (w5.alloc (.cells (madeCells #[Value.int .i64 0] xs.length) 2)) w5.heap.size (.slice (some ⟨w5.heap.size, 0, none⟩) xs.length xs.length) (List.replicate xs.length 0) := by
       have h := FrI.elr (w := w5.alloc (.cells (madeCells #[Value.int .i64 0] xs.length) 2)) (B := w5.heap.size) (v := .slice (some ⟨w5.heap.size, 0, none⟩) xs.length xs.length) (xs := List.replicate xs.length 0) ⟨w5.heap.size, xs.length, by rw [List.length_replicate], by rw [List.length_replicate]; exact hnew⟩
       exact h
      have hzf6 := ho5.fresh hnr
      have ho6 := ho5.below hbn; have hd6 := hd5.below hbn; have hr6 := hr5.below hbn; have hs6 := hs5.below hbn
      have hcw6 := hcw5.bl (hbn.mono (by have := hcw5.size; omega))
      have hzz6 : N + 1 <= (w5.alloc (.cells (madeCells #[Value.int .i64 0] xs.length) 2)).heap.size := by simp; omega
      have hxr6 : ElR _ (N + 1) _ _ := hnr.more (by omega)
      have hxl6 : (List.replicate xs.length (0 : Int)).length <= 16 := by rw [List.length_replicate]; exact hxl
      go_upto_region 11 with fail
      clear hmk hnew hnr hbn ho5 hd5 hr5 hs5 hcw5 hxr5 hxr
      generalize w5.alloc (.cells (madeCells #[Value.int .i64 0] xs.length) 2) = w6 at *
      obtain ⟨ad, nd, cd, rfl⟩ := ho6.od.form
      obtain ⟨bu, mu, rfl⟩ := ho6.ou.form
      have k0 := ho6.bx.c0; have k1 := ho6.bx.c1; have v0 := ho6.bx.f0; have v1 := ho6.bx.f1
      have HDL := HL.out
      have hodl := ho6.od
      have houl := ho6.ou
      have huls := ho6.ul
      have hgz : N + 1 <= w6.heap.size := by omega
      have HXX := Lib.hid (And.intro huls HDL); clear huls HDL
      go_wp2_with (first | (at_builtin; refine appr_one rfl _ _ rfl (w8.setCell ⟨N, 0, none⟩ (.slice (some ⟨g', 0, none⟩) (dg.length + 1) cap')) (N + 1) w8.heap.size (by simp) (.slice bu us.length mu) us rfl (.slice (some ⟨w5.heap.size, 0, none⟩) xs.length xs.length) 1 rfl rfl ho8.ou (Nat.le_trans (Nat.le_trans hgz hgb'.size) (by simp)) (by have := HXX.out; omega) ?_; intro g2 cap2 w10 hown2 hgb2 hg2 hge2; have j3 := (ho8.bx.bl hgb2 (Nat.lt_succ_self _)).c1; have j4 := (ho8.bx.bl hgb2 (Nat.lt_succ_self _)).f1) | (at_builtin; refine appn_one rfl _ _ rfl w6 (N + 1) _ rfl (.slice ad nd cd) dg rfl 0 1 rfl hodl hgz (by have := HXX.out; omega) ?_; intro g' cap' w8 hown' hgb' hg' hge; have ho8 := Drw.num ho6 (nv := .slice (some ⟨g', 0, none⟩) (dg.length + 1) cap') rfl hown' hgb' hg' hge; have j0 := (ho6.bx.bl hgb' (Nat.lt_succ_self _)).c0; have j1 := (ho6.bx.bl hgb' (Nat.lt_succ_self _)).f0; have j2 := (ho6.bx.bl hgb' (Nat.lt_succ_self _)).c1))
      clear j0 j1 j2 j3 j4 k0 k1 v0 v1
      have hpr : ElR w8 (N + 1) (.slice (some ⟨w5.heap.size, 0, none⟩) xs.length xs.length) (List.replicate xs.length 0) := hxr6.keep hgb'.size fun b off sp n c e => hg'.block b (hxr6.2 b off sp n c e).2 (fun e2 => (hzf6 b off sp n c e).1 e2.symm)
      have hpr2 := hpr.set_ (p := ⟨N, 0, none⟩) (Nat.lt_succ_self _) (.slice (some ⟨g', 0, none⟩) (dg.length + 1) cap')
      have hB8 : Below N w6 (w8.setCell ⟨N, 0, none⟩ (.slice (some ⟨g', 0, none⟩) (dg.length + 1) cap')) := (hgb'.mono (Nat.le_succ N)).setCell (p := ⟨N, 0, none⟩) (Nat.le_refl _) _
      have hzf8 : ∀ b off sp n c, Value.slice (some ⟨w5.heap.size, 0, none⟩) xs.length xs.length = Value.slice (some ⟨b, off, sp⟩) n c -> (Value.slice (some ⟨g', 0, none⟩) (dg.length + 1) cap').ownBlock ≠ some b /\ (Value.slice bu us.length mu).ownBlock ≠ some b := fun b off sp n c e => by
       refine ⟨fun e3 => ?_, (hzf6 b off sp n c e).2⟩
       have e4 : g' = b := Option.some.inj e3
       rcases hge with e2 | e2
       ·exact (hzf6 b off sp n c e).1 (by rw [e2, e4])
       ·have := (hxr6.2 b off sp n c e).2; omega
      have ho10 := Drw.row ho8 (nv := .slice (some ⟨g2, 0, none⟩) (us.length + 1) cap2) hpr2 hzf8 rfl hown2 hgb2 hg2 (by simpa using hge2)
      have hBF : Below N w6 (w10.setCell ⟨N, 1, none⟩ (.slice (some ⟨g2, 0, none⟩) (us.length + 1) cap2)) := (hB8.trans (hgb2.mono (Nat.le_succ N))).setCell (p := ⟨N, 1, none⟩) (Nat.le_refl _) _
      have hzF : N + 1 <= (w10.setCell ⟨N, 1, none⟩ (.slice (some ⟨g2, 0, none⟩) (us.length + 1) cap2)).heap.size := Nat.le_trans (by omega) hBF.size
      go_roundw
      case rel => exact ⟨k + 1, _, _, us ++ [(.slice (some ⟨w5.heap.size, 0, none⟩) xs.length xs.length)], dg ++ [0], up ++ [(List.replicate xs.length 0)], by omega, by go_num, by rw [List.length_append, HL.out.1]; rfl, by rw [List.length_append, HL.out.2]; rfl, le16_snoc h16 hxl6, ho10, hd6.bl hBF (by omega), hr6.bl hBF (by omega), hs6.bl hBF (by omega), hcw6.bl (hBF.mono (by omega)), hzF⟩
      case measure => simp [intOf]; omega
     ·have hyb : (y5 == 0) = false := by simpa using hy5
      have hxr6 := hxr5.more (B' := N + 1) (by omega)
      obtain ⟨ad, nd, cd, rfl⟩ := ho5.od.form
      obtain ⟨bu, mu, rfl⟩ := ho5.ou.form
      have k0 := ho5.bx.c0; have k1 := ho5.bx.c1; have v0 := ho5.bx.f0; have v1 := ho5.bx.f1
      have HDL := HL.out
      have hodl := ho5.od
      have houl := ho5.ou
      have huls := ho5.ul
      have hgz : N + 1 <= w5.heap.size := by omega
      have HXX := Lib.hid (And.intro huls HDL); clear huls HDL
      go_wp2_with (first | (at_builtin; refine appr_one rfl _ _ rfl (w8.setCell ⟨N, 0, none⟩ (.slice (some ⟨g', 0, none⟩) (dg.length + 1) cap')) (N + 1) w8.heap.size (by simp) (.slice bu us.length mu) us rfl (.slice au xs.length cu) 1 rfl rfl ho8.ou (Nat.le_trans (Nat.le_trans hgz hgb'.size) (by simp)) (by have := HXX.out; omega) ?_; intro g2 cap2 w10 hown2 hgb2 hg2 hge2; have j3 := (ho8.bx.bl hgb2 (Nat.lt_succ_self _)).c1; have j4 := (ho8.bx.bl hgb2 (Nat.lt_succ_self _)).f1) | (at_builtin; refine appn_one rfl _ _ rfl w5 (N + 1) _ rfl (.slice ad nd cd) dg rfl y 1 rfl hodl hgz (by have := HXX.out; omega) ?_; intro g' cap' w8 hown' hgb' hg' hge; have ho8 := Drw.num ho5 (nv := .slice (some ⟨g', 0, none⟩) (dg.length + 1) cap') rfl hown' hgb' hg' hge; have j0 := (ho5.bx.bl hgb' (Nat.lt_succ_self _)).c0; have j1 := (ho5.bx.bl hgb' (Nat.lt_succ_self _)).f0; have j2 := (ho5.bx.bl hgb' (Nat.lt_succ_self _)).c1))
      clear j0 j1 j2 j3 j4 k0 k1 v0 v1
      have hpr : ElR w8 (N + 1) (.slice au xs.length cu) xs := hxr6.keep hgb'.size fun b off sp n c e => hg'.block b (hxr6.2 b off sp n c e).2 (fun e2 => (hzf b off sp n c e).1 e2.symm)
      have hpr2 := hpr.set_ (p := ⟨N, 0, none⟩) (Nat.lt_succ_self _) (.slice (some ⟨g', 0, none⟩) (dg.length + 1) cap')
      have hB8 : Below N w5 (w8.setCell ⟨N, 0, none⟩ (.slice (some ⟨g', 0, none⟩) (dg.length + 1) cap')) := (hgb'.mono (Nat.le_succ N)).setCell (p := ⟨N, 0, none⟩) (Nat.le_refl _) _
      have hzf8 : ∀ b off sp n c, Value.slice au xs.length cu = Value.slice (some ⟨b, off, sp⟩) n c -> (Value.slice (some ⟨g', 0, none⟩) (dg.length + 1) cap').ownBlock ≠ some b /\ (Value.slice bu us.length mu).ownBlock ≠ some b := fun b off sp n c e => by
       refine ⟨fun e3 => ?_, (hzf b off sp n c e).2⟩
       have e4 : g' = b := Option.some.inj e3
       rcases hge with e2 | e2
       ·exact (hzf b off sp n c e).1 (by rw [e2, e4])
       ·have := (hxr6.2 b off sp n c e).2; omega
      have ho10 := Drw.row ho8 (nv := .slice (some ⟨g2, 0, none⟩) (us.length + 1) cap2) hpr2 hzf8 rfl hown2 hgb2 hg2 (by simpa using hge2)
      have hBF : Below N w5 (w10.setCell ⟨N, 1, none⟩ (.slice (some ⟨g2, 0, none⟩) (us.length + 1) cap2)) := (hB8.trans (hgb2.mono (Nat.le_succ N))).setCell (p := ⟨N, 1, none⟩) (Nat.le_refl _) _
      have hzF : N + 1 <= (w10.setCell ⟨N, 1, none⟩ (.slice (some ⟨g2, 0, none⟩) (us.length + 1) cap2)).heap.size := Nat.le_trans (by omega) hBF.size
      go_roundw
      case rel => exact ⟨k + 1, _, _, us ++ [(.slice au xs.length cu)], dg ++ [y], up ++ [xs], by omega, by go_num, by rw [List.length_append, HL.out.1]; rfl, by rw [List.length_append, HL.out.2]; rfl, le16_snoc h16 hxl, ho10, hd5.bl hBF (by omega), hr5.bl hBF (by omega), hs5.bl hBF (by omega), hcw5.bl (hBF.mono (by omega)), hzF⟩
      case measure => simp [intOf]; omega
    ·have hfb : (few == 0) = false := by simpa using hfew
     have hxr6 := hxr.more (B' := N + 1) (by omega)
     obtain ⟨ad, nd, cd, rfl⟩ := ho4.od.form
     obtain ⟨bu, mu, rfl⟩ := ho4.ou.form
     have k0 := ho4.bx.c0; have k1 := ho4.bx.c1; have v0 := ho4.bx.f0; have v1 := ho4.bx.f1
     have HDL := HL.out
     have hodl := ho4.od
     have houl := ho4.ou
     have huls := ho4.ul
     have hgz : N + 1 <= w4.heap.size := by omega
     have HXX := Lib.hid (And.intro huls HDL); clear huls HDL
     go_wp2_with (first | (at_builtin; refine appr_one rfl _ _ rfl (w8.setCell ⟨N, 0, none⟩ (.slice (some ⟨g', 0, none⟩) (dg.length + 1) cap')) (N + 1) w8.heap.size (by simp) (.slice bu us.length mu) us rfl (.slice au xs.length cu) 1 rfl rfl ho8.ou (Nat.le_trans (Nat.le_trans hgz hgb'.size) (by simp)) (by have := HXX.out; omega) ?_; intro g2 cap2 w10 hown2 hgb2 hg2 hge2; have j3 := (ho8.bx.bl hgb2 (Nat.lt_succ_self _)).c1; have j4 := (ho8.bx.bl hgb2 (Nat.lt_succ_self _)).f1) | (at_builtin; refine appn_one rfl _ _ rfl w4 (N + 1) _ rfl (.slice ad nd cd) dg rfl y 1 rfl hodl hgz (by have := HXX.out; omega) ?_; intro g' cap' w8 hown' hgb' hg' hge; have ho8 := Drw.num ho4 (nv := .slice (some ⟨g', 0, none⟩) (dg.length + 1) cap') rfl hown' hgb' hg' hge; have j0 := (ho4.bx.bl hgb' (Nat.lt_succ_self _)).c0; have j1 := (ho4.bx.bl hgb' (Nat.lt_succ_self _)).f0; have j2 := (ho4.bx.bl hgb' (Nat.lt_succ_self _)).c1))
     clear j0 j1 j2 j3 j4 k0 k1 v0 v1
     have hpr : ElR w8 (N + 1) (.slice au xs.length cu) xs := hxr6.keep hgb'.size fun b off sp n c e => hg'.block b (hxr6.2 b off sp n c e).2 (fun e2 => (hzf b off sp n c e).1 e2.symm)
     have hpr2 := hpr.set_ (p := ⟨N, 0, none⟩) (Nat.lt_succ_self _) (.slice (some ⟨g', 0, none⟩) (dg.length + 1) cap')
     have hB8 : Below N w4 (w8.setCell ⟨N, 0, none⟩ (.slice (some ⟨g', 0, none⟩) (dg.length + 1) cap')) := (hgb'.mono (Nat.le_succ N)).setCell (p := ⟨N, 0, none⟩) (Nat.le_refl _) _
     have hzf8 : ∀ b off sp n c, Value.slice au xs.length cu = Value.slice (some ⟨b, off, sp⟩) n c -> (Value.slice (some ⟨g', 0, none⟩) (dg.length + 1) cap').ownBlock ≠ some b /\ (Value.slice bu us.length mu).ownBlock ≠ some b := fun b off sp n c e => by
      refine ⟨fun e3 => ?_, (hzf b off sp n c e).2⟩
      have e4 : g' = b := Option.some.inj e3
      rcases hge with e2 | e2
      ·exact (hzf b off sp n c e).1 (by rw [e2, e4])
      ·have := (hxr6.2 b off sp n c e).2; omega
     have ho10 := Drw.row ho8 (nv := .slice (some ⟨g2, 0, none⟩) (us.length + 1) cap2) hpr2 hzf8 rfl hown2 hgb2 hg2 (by simpa using hge2)
     have hBF : Below N w4 (w10.setCell ⟨N, 1, none⟩ (.slice (some ⟨g2, 0, none⟩) (us.length + 1) cap2)) := (hB8.trans (hgb2.mono (Nat.le_succ N))).setCell (p := ⟨N, 1, none⟩) (Nat.le_refl _) _
     have hzF : N + 1 <= (w10.setCell ⟨N, 1, none⟩ (.slice (some ⟨g2, 0, none⟩) (us.length + 1) cap2)).heap.size := Nat.le_trans (by omega) hBF.size
     go_roundw
     case rel => exact ⟨k + 1, _, _, us ++ [(.slice au xs.length cu)], dg ++ [y], up ++ [xs], by omega, by go_num, by rw [List.length_append, HL.out.1]; rfl, by rw [List.length_append, HL.out.2]; rfl, le16_snoc h16 hxl, ho10, hd4.bl hBF (by omega), hr4.bl hBF (by omega), hs4.bl hBF (by omega), hcw4.bl (hBF.mono (by omega)), hzF⟩
     case measure => simp [intOf]; omega
  ·obtain rfl : k = 3 := by omega
   obtain ⟨hdl, hul⟩ := HL.out
   have hX : Hsz ⟨dg, up⟩ := ⟨by show dg.length <= _; omega, by show up.length <= _; omega, fun xs hx => by have := h16 xs hx; omega⟩
   obtain ⟨ad, nd, cd, rfl⟩ := ho.od.form
   obtain ⟨bu, mu, rfl⟩ := ho.ou.form
   have hs := hsr
   have HDL := Lib.hid hdl; have HUL := Lib.hid hul
   clear hsr hdl hul HL e0 e1
   have hE := (hx.chg hcw (by omega)).1
   have hcon := sl14_c (w := wr) (p := p) hE (by omega)
   have k0 := ho.bx.c0; have k1 := ho.bx.c1; have e0 := hd.c0; have e1 := hd.c1
   by_cases h0 : chk3 p st [] = 0
   case neg =>
    obtain ⟨k, hk⟩ : ∃ k, k = chk3 p st [] := ⟨_, rfl⟩
    rw [<- hk] at h0 hcon
    clear hk
    have hne : (k == 0) = false := by simpa using h0
    go_wp2_with fail
    refine hcon.mono ?_; rintro e w3 ⟨rfl, hb3⟩
    have ho := ho.below hb3; have hd := hd.below hb3; have hr := hr.below hb3; have hs := hs.below hb3; have hcw := hcw.bl (hb3.mono hcw.size); have hzz : N + 1 <= w3.heap.size := Nat.le_trans hzz hb3.size
    clear hcon
    go_wp2_with fail
    refine (snext_c hs (by decide) (by decide)).mono ?_; rintro e wz ⟨z, rfl, _, _, hsz, hcz, hzz2⟩
    have hoz := ho.chg hcz (by omega); have hrz := hr.chg hcz (.inr (by omega))
    have hcwz := hcw.trans hcz
    have hzw := hcwz.size
    clear hzz2
    have hHv := hoz.hvr
    have k0 := hoz.bx.c0; have k1 := hoz.bx.c1; have v0 := hoz.bx.f0; have v1 := hoz.bx.f1
    have r0 := hrz.c0; have r1 := hrz.c1; have rf0 := hrz.f0; have rf1 := hrz.f1
    by_cases hz0 : z = 0
    ·subst hz0
     obtain ⟨g, cap, hge, hcap1, hcap2, hAt⟩ := hoz.od.atX HDL.out (by decide)
     cases hge
     go_wp2_with fail
     refine bodyPost_ret (v := .agg #[.slice (some ⟨g, 1, none⟩) 2 (cd - 1), .slice bu us.length mu]) (by simp [results, Tryz.results18, go_sem, r0, r1]) rfl ?_
     refine ⟨_, ⟨dg.drop 1, up⟩, rfl, ?_, ⟨by show (dg.drop 1).length <= _; rw [List.length_drop]; have h3 := HDL.out; omega, hX.h2, hX.h3⟩, ?_, ?_⟩
     ·exact ((((hHv.drop HDL.out (by decide)).set_ (p := ⟨N, 0, none⟩) (by show N < N + 1; omega) _).set_ (p := ⟨w.heap.size + 1, 0, none⟩) (by show w.heap.size + 1 < N + 1; omega) _).set_ (p := ⟨w.heap.size + 1, 1, none⟩) (by show w.heap.size + 1 < N + 1; omega) _).more (by omega)
     ·exact hsz.bl (B := q + 1) ((((Below.refl _ _).setCell (p := ⟨N, 0, none⟩) (by show _ <= N; omega) _).setCell (p := ⟨w.heap.size + 1, 0, none⟩) (by show _ <= w.heap.size + 1; omega) _).setCell (p := ⟨w.heap.size + 1, 1, none⟩) (by show _ <= w.heap.size + 1; omega) _) (by omega)
     ·exact hcwz.bl ((((Below.refl _ _).setCell (p := ⟨N, 0, none⟩) (by show _ <= N; omega) _).setCell (p := ⟨w.heap.size + 1, 0, none⟩) (by show _ <= w.heap.size + 1; omega) _).setCell (p := ⟨w.heap.size + 1, 1, none⟩) (by show _ <= w.heap.size + 1; omega) _)
    ·have hzb : (z == 0) = false := by simpa using hz0
     go_wp2_with fail
     refine bodyPost_ret (v := .agg #[.slice ad nd cd, .slice bu us.length mu]) (by simp [results, Tryz.results18, go_sem, r0, r1]) rfl ?_
     refine ⟨_, ⟨dg, up⟩, rfl, ?_, hX, ?_, ?_⟩
     ·exact ((hHv.set_ (p := ⟨w.heap.size + 1, 0, none⟩) (by show w.heap.size + 1 < N + 1; omega) _).set_ (p := ⟨w.heap.size + 1, 1, none⟩) (by show w.heap.size + 1 < N + 1; omega) _).more (by omega)
     ·exact hsz.bl (B := q + 1) (((Below.refl _ _).setCell (p := ⟨w.heap.size + 1, 0, none⟩) (by show _ <= w.heap.size + 1; omega) _).setCell (p := ⟨w.heap.size + 1, 1, none⟩) (by show _ <= w.heap.size + 1; omega) _) (by omega)
     ·exact hcwz.bl (((Below.refl _ _).setCell (p := ⟨w.heap.size + 1, 0, none⟩) (by show _ <= w.heap.size + 1; omega) _).setCell (p := ⟨w.heap.size + 1, 1, none⟩) (by show _ <= w.heap.size + 1; omega) _)
   rw [h0] at hcon
   have hdk := chk3_dok h0
   have hpp := hdk.hp.lo
   clear h0
   go_wp2_with fail
   refine hcon.mono ?_; rintro e w3 ⟨rfl, hb3⟩
   have ho := ho.below hb3; have hd := hd.below hb3; have hr := hr.below hb3; have hs := hs.below hb3; have hcw := hcw.bl (hb3.mono hcw.size); have hzz : N + 1 <= w3.heap.size := Nat.le_trans hzz hb3.size
   clear hcon k0 k1 e0 e1
   have hE := (hx.chg hcw (by omega)).1
   have k0 := ho.bx.c0; have k1 := ho.bx.c1; have e0 := hd.c0; have e1 := hd.c1
   have hcis := sl16is_c hdk hE ho.hvr.hv hX
   cases hIs : isH p (sz st.length) ⟨dg, up⟩
   ·rw [hIs] at hcis
    go_wp2_with fail
    refine hcis.mono ?_; rintro e w4 ⟨rfl, hb4⟩
    have ho := ho.below hb4; have hd := hd.below hb4; have hr := hr.below hb4; have hs := hs.below hb4; have hcw := hcw.bl (hb4.mono hcw.size); have hzz : N + 1 <= w4.heap.size := Nat.le_trans hzz hb4.size
    clear hcis
    go_wp2_with fail
    refine (snext_c hs (by decide) (by decide)).mono ?_; rintro e wz ⟨z, rfl, _, _, hsz, hcz, hzz2⟩
    have hoz := ho.chg hcz (by omega); have hrz := hr.chg hcz (.inr (by omega))
    have hcwz := hcw.trans hcz
    have hzw := hcwz.size
    clear hzz2
    have hHv := hoz.hvr
    have k0 := hoz.bx.c0; have k1 := hoz.bx.c1; have v0 := hoz.bx.f0; have v1 := hoz.bx.f1
    have r0 := hrz.c0; have r1 := hrz.c1; have rf0 := hrz.f0; have rf1 := hrz.f1
    by_cases hz0 : z = 0
    ·subst hz0
     obtain ⟨g, cap, hge, hcap1, hcap2, hAt⟩ := hoz.od.atX HDL.out (by decide)
     cases hge
     go_wp2_with fail
     refine bodyPost_ret (v := .agg #[.slice (some ⟨g, 1, none⟩) 2 (cd - 1), .slice bu us.length mu]) (by simp [results, Tryz.results18, go_sem, r0, r1]) rfl ?_
     refine ⟨_, ⟨dg.drop 1, up⟩, rfl, ?_, ⟨by show (dg.drop 1).length <= _; rw [List.length_drop]; have h3 := HDL.out; omega, hX.h2, hX.h3⟩, ?_, ?_⟩
     ·exact ((((hHv.drop HDL.out (by decide)).set_ (p := ⟨N, 0, none⟩) (by show N < N + 1; omega) _).set_ (p := ⟨w.heap.size + 1, 0, none⟩) (by show w.heap.size + 1 < N + 1; omega) _).set_ (p := ⟨w.heap.size + 1, 1, none⟩) (by show w.heap.size + 1 < N + 1; omega) _).more (by omega)
     ·exact hsz.bl (B := q + 1) ((((Below.refl _ _).setCell (p := ⟨N, 0, none⟩) (by show _ <= N; omega) _).setCell (p := ⟨w.heap.size + 1, 0, none⟩) (by show _ <= w.heap.size + 1; omega) _).setCell (p := ⟨w.heap.size + 1, 1, none⟩) (by show _ <= w.heap.size + 1; omega) _) (by omega)
     ·exact hcwz.bl ((((Below.refl _ _).setCell (p := ⟨N, 0, none⟩) (by show _ <= N; omega) _).setCell (p := ⟨w.heap.size + 1, 0, none⟩) (by show _ <= w.heap.size + 1; omega) _).setCell (p := ⟨w.heap.size + 1, 1, none⟩) (by show _ <= w.heap.size + 1; omega) _)
    ·have hzb : (z == 0) = false := by simpa using hz0
     go_wp2_with fail
     refine bodyPost_ret (v := .agg #[.slice ad nd cd, .slice bu us.length mu]) (by simp [results, Tryz.results18, go_sem, r0, r1]) rfl ?_
     refine ⟨_, ⟨dg, up⟩, rfl, ?_, hX, ?_, ?_⟩
     ·exact ((hHv.set_ (p := ⟨w.heap.size + 1, 0, none⟩) (by show w.heap.size + 1 < N + 1; omega) _).set_ (p := ⟨w.heap.size + 1, 1, none⟩) (by show w.heap.size + 1 < N + 1; omega) _).more (by omega)
     ·exact hsz.bl (B := q + 1) (((Below.refl _ _).setCell (p := ⟨w.heap.size + 1, 0, none⟩) (by show _ <= w.heap.size + 1; omega) _).setCell (p := ⟨w.heap.size + 1, 1, none⟩) (by show _ <= w.heap.size + 1; omega) _) (by omega)
     ·exact hcwz.bl (((Below.refl _ _).setCell (p := ⟨w.heap.size + 1, 0, none⟩) (by show _ <= w.heap.size + 1; omega) _).setCell (p := ⟨w.heap.size + 1, 1, none⟩) (by show _ <= w.heap.size + 1; omega) _)
   rw [hIs] at hcis
   go_wp2_with fail
   refine hcis.mono ?_; rintro e w4 ⟨rfl, hb4⟩
   have ho := ho.below hb4; have hd := hd.below hb4; have hr := hr.below hb4; have hs := hs.below hb4; have hcw := hcw.bl (hb4.mono hcw.size); have hzz : N + 1 <= w4.heap.size := Nat.le_trans hzz hb4.size
   clear hcis k0 k1 e0 e1
   go_wp2_with fail
   refine (snext_c hs (by decide) (by decide)).mono ?_; rintro e w5 ⟨y5, rfl, _, _, hsy, hcy, hzy⟩
   have ho := ho.chg hcy (by omega); have hd := hd.chg hcy (.inr (by omega)); have hr := hr.chg hcy (.inr (by omega)); have hs := hsy; have hcw := hcw.trans hcy; have hzz : N + 1 <= w5.heap.size := Nat.le_trans hzz hcy.size
   clear hzy hsy hcy
   by_cases hy5 : y5 = 0
   case neg =>
    have hy5b : (y5 == 0) = false := by simpa using hy5
    go_wp2_with fail
    refine (snext_c hs (by decide) (by decide)).mono ?_; rintro e wz ⟨z, rfl, _, _, hsz, hcz, hzz2⟩
    have hoz := ho.chg hcz (by omega); have hrz := hr.chg hcz (.inr (by omega))
    have hcwz := hcw.trans hcz
    have hzw := hcwz.size
    clear hzz2
    have hHv := hoz.hvr
    have k0 := hoz.bx.c0; have k1 := hoz.bx.c1; have v0 := hoz.bx.f0; have v1 := hoz.bx.f1
    have r0 := hrz.c0; have r1 := hrz.c1; have rf0 := hrz.f0; have rf1 := hrz.f1
    by_cases hz0 : z = 0
    ·subst hz0
     obtain ⟨g, cap, hge, hcap1, hcap2, hAt⟩ := hoz.od.atX HDL.out (by decide)
     cases hge
     go_wp2_with fail
     refine bodyPost_ret (v := .agg #[.slice (some ⟨g, 1, none⟩) 2 (cd - 1), .slice bu us.length mu]) (by simp [results, Tryz.results18, go_sem, r0, r1]) rfl ?_
     refine ⟨_, ⟨dg.drop 1, up⟩, rfl, ?_, ⟨by show (dg.drop 1).length <= _; rw [List.length_drop]; have h3 := HDL.out; omega, hX.h2, hX.h3⟩, ?_, ?_⟩
     ·exact ((((hHv.drop HDL.out (by decide)).set_ (p := ⟨N, 0, none⟩) (by show N < N + 1; omega) _).set_ (p := ⟨w.heap.size + 1, 0, none⟩) (by show w.heap.size + 1 < N + 1; omega) _).set_ (p := ⟨w.heap.size + 1, 1, none⟩) (by show w.heap.size + 1 < N + 1; omega) _).more (by omega)
     ·exact hsz.bl (B := q + 1) ((((Below.refl _ _).setCell (p := ⟨N, 0, none⟩) (by show _ <= N; omega) _).setCell (p := ⟨w.heap.size + 1, 0, none⟩) (by show _ <= w.heap.size + 1; omega) _).setCell (p := ⟨w.heap.size + 1, 1, none⟩) (by show _ <= w.heap.size + 1; omega) _) (by omega)
     ·exact hcwz.bl ((((Below.refl _ _).setCell (p := ⟨N, 0, none⟩) (by show _ <= N; omega) _).setCell (p := ⟨w.heap.size + 1, 0, none⟩) (by show _ <= w.heap.size + 1; omega) _).setCell (p := ⟨w.heap.size + 1, 1, none⟩) (by show _ <= w.heap.size + 1; omega) _)
    ·have hzb : (z == 0) = false := by simpa using hz0
     go_wp2_with fail
     refine bodyPost_ret (v := .agg #[.slice ad nd cd, .slice bu us.length mu]) (by simp [results, Tryz.results18, go_sem, r0, r1]) rfl ?_
     refine ⟨_, ⟨dg, up⟩, rfl, ?_, hX, ?_, ?_⟩
     ·exact ((hHv.set_ (p := ⟨w.heap.size + 1, 0, none⟩) (by show w.heap.size + 1 < N + 1; omega) _).set_ (p := ⟨w.heap.size + 1, 1, none⟩) (by show w.heap.size + 1 < N + 1; omega) _).more (by omega)
     ·exact hsz.bl (B := q + 1) (((Below.refl _ _).setCell (p := ⟨w.heap.size + 1, 0, none⟩) (by show _ <= w.heap.size + 1; omega) _).setCell (p := ⟨w.heap.size + 1, 1, none⟩) (by show _ <= w.heap.size + 1; omega) _) (by omega)
     ·exact hcwz.bl (((Below.refl _ _).setCell (p := ⟨w.heap.size + 1, 0, none⟩) (by show _ <= w.heap.size + 1; omega) _).setCell (p := ⟨w.heap.size + 1, 1, none⟩) (by show _ <= w.heap.size + 1; omega) _)
   subst hy5
   go_wp2_with fail
   go_loopw [10] (fun iv wr => ∃ (k : Nat) (D : List Int), k <= 6 /\ iv = .int .i64 k /\ D.length = 3 /\ isH p (sz st.length) ⟨D, up⟩ = true /\ Drw wr N (.slice ad nd cd) (.slice bu us.length mu) us D up /\ Bd wr w.heap.size (.int .i64 p) (.slice a st.length c) /\ Bx wr (w.heap.size + 1) (.slice none 0 0) (.slice none 0 0) /\ Src wr q /\ Chg q (q + 1) w wr /\ N + 1 <= wr.heap.size) (fun iv _ => 6 - (intOf iv).toNat)
   case atStart => exact ⟨0, dg, by omega, rfl, HDL.out, hIs, ho, hd, hr, hs, hcw, hzz⟩
   case round =>
    clear ho hd hr hs hcw hzz hE hIs hX HDL
    generalize wr = wp at *
    obtain ⟨k, D, hk, rfl, hDl, hIs, ho, hd, hr, hs, hcw, hzz⟩ := hrel
    have HDL := Lib.hid hDl; have HIS := Lib.hid hIs
    have hX : Hsz ⟨D, up⟩ := ⟨by show D.length <= _; omega, by show up.length <= _; have := HUL.out; omega, fun xs hx => by have := h16 xs hx; omega⟩
    clear hDl hIs
    by_cases hlt : k < 6
    ·have hE := (hx.chg hcw (by omega)).1
     have hV := ho.hvr.hv
     have k0 := ho.bx.c0; have k1 := ho.bx.c1; have e0 := hd.c0; have e1 := hd.c1
     have hct := sdet_c hdk hE hV HIS.out
     obtain ⟨dn, hdn⟩ : ∃ n, n = detH p st ⟨D, up⟩ := ⟨_, rfl⟩
     rw [<- hdn] at hct
     clear hdn
     go_wp2_with fail
     refine hct.mono ?_; rintro e w5 ⟨rfl, hb5⟩
     have ho := ho.below hb5; have hd := hd.below hb5; have hr := hr.below hb5; have hs := hs.below hb5; have hcw := hcw.bl (hb5.mono hcw.size); have hzz : N + 1 <= w5.heap.size := Nat.le_trans hzz hb5.size
     clear hct hE hV k0 k1 e0 e1
     by_cases hdn0 : dn = 0
     ·subst hdn0
      have hE := (hx.chg hcw (by omega)).1
      have hV := ho.hvr.hv
      have k0 := ho.bx.c0; have k1 := ho.bx.c1; have e0 := hd.c0; have e1 := hd.c1
      have hct := sdet_c hdk hE hV HIS.out
      obtain ⟨dt, hdt⟩ : ∃ n, n = detH p st ⟨D, up⟩ := ⟨_, rfl⟩
      rw [<- hdt] at hct
      clear hdt
      go_wp2_with fail
      refine hct.mono ?_; rintro e w7 ⟨rfl, hb7⟩
      have ho := ho.below hb7; have hd := hd.below hb7; have hr := hr.below hb7; have hs := hs.below hb7; have hcw := hcw.bl (hb7.mono hcw.size); have hzz : N + 1 <= w7.heap.size := Nat.le_trans hzz hb7.size
      by_cases hdt0 : dt = 0
      ·subst hdt0
       go_wp2_with fail
       refine (snext_c hs (by decide) (by decide)).mono ?_; rintro e w8 ⟨y8, rfl, _, _, hsy, hcy, hzy⟩
       have ho := ho.chg hcy (by omega); have hd := hd.chg hcy (.inr (by omega)); have hr := hr.chg hcy (.inr (by omega)); have hs := hsy; have hcw := hcw.trans hcy; have hzz : N + 1 <= w8.heap.size := Nat.le_trans hzz hcy.size
       clear hzy hsy hcy
       by_cases hy8 : y8 = 0
       ·subst hy8
        have hE := (hx.chg hcw (by omega)).1
        have hV := ho.hvr.hv
        have k0 := ho.bx.c0; have k1 := ho.bx.c1; have e0 := hd.c0; have e1 := hd.c1
        go_wp2_with fail
        refine (sadj_c hdk hE hV HIS.out).mono ?_; rintro e w9 ⟨va, rfl, hfr, hb9⟩
        have hH := hfr.hvr
        have hHz := adjH_hsz hdk HIS.out
        have hlt9 := hb9.size
        clear hfr
        generalize adjH p st ⟨D, up⟩ = Y at *
        obtain ⟨da, ua, rfl, hda, hua⟩ := id hH
        obtain ⟨a1, c1, rfl, _⟩ := hda.1.op
        obtain ⟨b1, c2, rfl, _⟩ := id hua
        clear hda hua
        have ho := ho.below hb9; have hd := hd.below hb9; have hr := hr.below hb9; have hs := hs.below hb9; have hcw := hcw.bl (hb9.mono hcw.size); have hzz : N + 1 <= w9.heap.size := Nat.le_trans hzz hb9.size
        have r0 := hr.c0; have r1 := hr.c1; have rf0 := hr.f0; have rf1 := hr.f1
        go_wp2_with fail
        refine bodyPost_ret (v := .agg #[.slice a1 Y.dg.length c1, .slice b1 Y.up.length c2]) (by simp [results, Tryz.results18, go_sem, r0, r1]) rfl ?_
        refine ⟨_, Y, rfl, ?_, hHz, ?_, ?_⟩
        ·exact ((hH.set_ (p := ⟨w.heap.size + 1, 0, none⟩) (by show w.heap.size + 1 < _; omega) _).set_ (p := ⟨w.heap.size + 1, 1, none⟩) (by show w.heap.size + 1 < _; omega) _).more (by omega)
        ·exact hs.bl (B := q + 1) (((Below.refl _ _).setCell (p := ⟨w.heap.size + 1, 0, none⟩) (by show _ <= w.heap.size + 1; omega) _).setCell (p := ⟨w.heap.size + 1, 1, none⟩) (by show _ <= w.heap.size + 1; omega) _) (by omega)
        ·exact hcw.bl (((Below.refl _ _).setCell (p := ⟨w.heap.size + 1, 0, none⟩) (by show _ <= w.heap.size + 1; omega) _).setCell (p := ⟨w.heap.size + 1, 1, none⟩) (by show _ <= w.heap.size + 1; omega) _)
       ·have hy8b : (y8 == 0) = false := by simpa using hy8
        go_wp2_with fail
        refine (snext_c hs (by decide) (by decide)).mono ?_; rintro e wz ⟨z, rfl, _, _, hsz, hcz, hzz2⟩
        have hoz := ho.chg hcz (by omega); have hrz := hr.chg hcz (.inr (by omega))
        have hcwz := hcw.trans hcz
        have hzw := hcwz.size
        clear hzz2
        have hHv := hoz.hvr
        have k0 := hoz.bx.c0; have k1 := hoz.bx.c1; have v0 := hoz.bx.f0; have v1 := hoz.bx.f1
        have r0 := hrz.c0; have r1 := hrz.c1; have rf0 := hrz.f0; have rf1 := hrz.f1
        by_cases hz0 : z = 0
        ·subst hz0
         obtain ⟨g, cap, hge, hcap1, hcap2, hAt⟩ := hoz.od.atX HDL.out (by decide)
         cases hge
         go_wp2_with fail
         refine bodyPost_ret (v := .agg #[.slice (some ⟨g, 1, none⟩) 2 (cd - 1), .slice bu us.length mu]) (by simp [results, Tryz.results18, go_sem, r0, r1]) rfl ?_
         refine ⟨_, ⟨D.drop 1, up⟩, rfl, ?_, ⟨by show (D.drop 1).length <= _; rw [List.length_drop]; have h3 := HDL.out; omega, hX.h2, hX.h3⟩, ?_, ?_⟩
         ·exact ((((hHv.drop HDL.out (by decide)).set_ (p := ⟨N, 0, none⟩) (by show N < N + 1; omega) _).set_ (p := ⟨w.heap.size + 1, 0, none⟩) (by show w.heap.size + 1 < N + 1; omega) _).set_ (p := ⟨w.heap.size + 1, 1, none⟩) (by show w.heap.size + 1 < N + 1; omega) _).more (by omega)
         ·exact hsz.bl (B := q + 1) ((((Below.refl _ _).setCell (p := ⟨N, 0, none⟩) (by show _ <= N; omega) _).setCell (p := ⟨w.heap.size + 1, 0, none⟩) (by show _ <= w.heap.size + 1; omega) _).setCell (p := ⟨w.heap.size + 1, 1, none⟩) (by show _ <= w.heap.size + 1; omega) _) (by omega)
         ·exact hcwz.bl ((((Below.refl _ _).setCell (p := ⟨N, 0, none⟩) (by show _ <= N; omega) _).setCell (p := ⟨w.heap.size + 1, 0, none⟩) (by show _ <= w.heap.size + 1; omega) _).setCell (p := ⟨w.heap.size + 1, 1, none⟩) (by show _ <= w.heap.size + 1; omega) _)
        ·have hzb : (z == 0) = false := by simpa using hz0
         go_wp2_with fail
         refine bodyPost_ret (v := .agg #[.slice ad nd cd, .slice bu us.length mu]) (by simp [results, Tryz.results18, go_sem, r0, r1]) rfl ?_
         refine ⟨_, ⟨D, up⟩, rfl, ?_, hX, ?_, ?_⟩
         ·exact ((hHv.set_ (p := ⟨w.heap.size + 1, 0, none⟩) (by show w.heap.size + 1 < N + 1; omega) _).set_ (p := ⟨w.heap.size + 1, 1, none⟩) (by show w.heap.size + 1 < N + 1; omega) _).more (by omega)
         ·exact hsz.bl (B := q + 1) (((Below.refl _ _).setCell (p := ⟨w.heap.size + 1, 0, none⟩) (by show _ <= w.heap.size + 1; omega) _).setCell (p := ⟨w.heap.size + 1, 1, none⟩) (by show _ <= w.heap.size + 1; omega) _) (by omega)
         ·exact hcwz.bl (((Below.refl _ _).setCell (p := ⟨w.heap.size + 1, 0, none⟩) (by show _ <= w.heap.size + 1; omega) _).setCell (p := ⟨w.heap.size + 1, 1, none⟩) (by show _ <= w.heap.size + 1; omega) _)
      ·have hdtb : (dt == 0) = false := by simpa using hdt0
       go_wp2_with fail
       refine (snext_c hs (by decide) (by decide)).mono ?_; rintro e wz ⟨z, rfl, _, _, hsz, hcz, hzz2⟩
       have hoz := ho.chg hcz (by omega); have hrz := hr.chg hcz (.inr (by omega))
       have hcwz := hcw.trans hcz
       have hzw := hcwz.size
       clear hzz2
       have hHv := hoz.hvr
       have k0 := hoz.bx.c0; have k1 := hoz.bx.c1; have v0 := hoz.bx.f0; have v1 := hoz.bx.f1
       have r0 := hrz.c0; have r1 := hrz.c1; have rf0 := hrz.f0; have rf1 := hrz.f1
       by_cases hz0 : z = 0
       ·subst hz0
        obtain ⟨g, cap, hge, hcap1, hcap2, hAt⟩ := hoz.od.atX HDL.out (by decide)
        cases hge
        go_wp2_with fail
        refine bodyPost_ret (v := .agg #[.slice (some ⟨g, 1, none⟩) 2 (cd - 1), .slice bu us.length mu]) (by simp [results, Tryz.results18, go_sem, r0, r1]) rfl ?_
        refine ⟨_, ⟨D.drop 1, up⟩, rfl, ?_, ⟨by show (D.drop 1).length <= _; rw [List.length_drop]; have h3 := HDL.out; omega, hX.h2, hX.h3⟩, ?_, ?_⟩
        ·exact ((((hHv.drop HDL.out (by decide)).set_ (p := ⟨N, 0, none⟩) (by show N < N + 1; omega) _).set_ (p := ⟨w.heap.size + 1, 0, none⟩) (by show w.heap.size + 1 < N + 1; omega) _).set_ (p := ⟨w.heap.size + 1, 1, none⟩) (by show w.heap.size + 1 < N + 1; omega) _).more (by omega)
        ·exact hsz.bl (B := q + 1) ((((Below.refl _ _).setCell (p := ⟨N, 0, none⟩) (by show _ <= N; omega) _).setCell (p := ⟨w.heap.size + 1, 0, none⟩) (by show _ <= w.heap.size + 1; omega) _).setCell (p := ⟨w.heap.size + 1, 1, none⟩) (by show _ <= w.heap.size + 1; omega) _) (by omega)
        ·exact hcwz.bl ((((Below.refl _ _).setCell (p := ⟨N, 0, none⟩) (by show _ <= N; omega) _).setCell (p := ⟨w.heap.size + 1, 0, none⟩) (by show _ <= w.heap.size + 1; omega) _).setCell (p := ⟨w.heap.size + 1, 1, none⟩) (by show _ <= w.heap.size + 1; omega) _)
       ·have hzb : (z == 0) = false := by simpa using hz0
        go_wp2_with fail
        refine bodyPost_ret (v := .agg #[.slice ad nd cd, .slice bu us.length mu]) (by simp [results, Tryz.results18, go_sem, r0, r1]) rfl ?_
        refine ⟨_, ⟨D, up⟩, rfl, ?_, hX, ?_, ?_⟩
        ·exact ((hHv.set_ (p := ⟨w.heap.size + 1, 0, none⟩) (by show w.heap.size + 1 < N + 1; omega) _).set_ (p := ⟨w.heap.size + 1, 1, none⟩) (by show w.heap.size + 1 < N + 1; omega) _).more (by omega)
        ·exact hsz.bl (B := q + 1) (((Below.refl _ _).setCell (p := ⟨w.heap.size + 1, 0, none⟩) (by show _ <= w.heap.size + 1; omega) _).setCell (p := ⟨w.heap.size + 1, 1, none⟩) (by show _ <= w.heap.size + 1; omega) _) (by omega)
        ·exact hcwz.bl (((Below.refl _ _).setCell (p := ⟨w.heap.size + 1, 0, none⟩) (by show _ <= w.heap.size + 1; omega) _).setCell (p := ⟨w.heap.size + 1, 1, none⟩) (by show _ <= w.heap.size + 1; omega) _)
     ·have hdnb : (dn == 0) = false := by simpa using hdn0
      obtain ⟨g, cap, hge, hcap1, hcap2, hAt⟩ := ho.od.atX HDL.out (by decide)
      cases hge
      go_upto_region 17 with fail
      refine @region_flowR ⟨q, q + 1⟩ _ [(false, [(0, 0), (1, 1), (2, 0), (3, 0), (4, 1), (5, 5)]), (false, [(6, 0), (7, 4)])] _ _ _ _ _ (by kernel_rfl) ?_
      refine norm_K fun K hK => ?_
      change wpList _ _ _ [_, _, _, _, _, _] _ _
      have hbq : Below w5.heap.size w5 w5.drew := bwT
      have ho := ho.below hbq; have hd := hd.below hbq; have hr := hr.below hbq; have hs := hs.below hbq; have hcw := hcw.bl (hbq.mono hcw.size); have hzz : N + 1 <= w5.drew.heap.size := Nat.le_trans hzz hbq.size
      have hbxq := ho.bx; have hbdq := hd
      generalize w5.drew = wq at *
      have k0 := ho.bx.c0; have k1 := ho.bx.c1; have e0 := hd.c0; have e1 := hd.c1
      go_wp2_with fail
      refine (snext_c (n := p) hs (by omega) (by omega)).mono ?_; rintro e w6 ⟨y6, rfl, hy60, hy61, hsy, hcy, hzy⟩
      have ho := ho.chg hcy (by omega); have hd := hd.chg hcy (.inr (by omega)); have hr := hr.chg hcy (.inr (by omega)); have hs := hsy; have hcw := hcw.trans hcy; have hzz : N + 1 <= w6.heap.size := Nat.le_trans hzz hcy.size
      clear hzy hsy k0 k1 e0 e1
      go_wp2_with fail
      first | (refine hK _ _ ⟨hcy, ?_⟩; clear hK K) | refine ⟨hcy, ?_⟩
      refine norm_K fun K hK => ?_
      change wpList _ _ _ [_, _] _ _
      have hoI : OwnI w6 (N + 1) g 3 cd D := by
       have h := ho.od
       unfold OwN at h
       rw [HDL.out] at h
       exact h
      have hh := hoI.hold (i := 0) (by decide)
      have hf := hoI.free 0
      have hgN := hoI.lt
      have hoS := ho.set0 (g := g) (cap := cd) (n := 3) rfl HDL.out 0 y6
      go_wp2_with fail
      first | (refine hK _ _ ⟨⟨rfl, ?_⟩, ?_⟩; clear hK K) | refine ⟨⟨rfl, ?_⟩, ?_⟩
      ·repeat' (first | exact trivial | exact ⟨_, rfl, (show N < q \/ q + 1 <= N by omega), _, _, _, hbxq⟩ | exact ⟨_, rfl, (show w.heap.size < q \/ q + 1 <= w.heap.size by omega), _, _, _, hbdq⟩ | refine And.intro ?_ ?_)
      have hbS : Below (N + 1) w6 (w6.setCell ⟨g, 0, none⟩ (.int .i64 y6)) := (Below.refl _ _).setCell (p := ⟨g, 0, none⟩) (by show N + 1 <= g; omega) _
      go_wp2
      go_roundw
      case rel => exact ⟨k + 1, D.set 0 y6, by omega, by go_num, by rw [List.length_set]; exact HDL.out, isH_set HIS.out hy60 (by omega), hoS, hd.bl hbS (by omega), hr.bl hbS (by omega), hs.bl hbS (by omega), hcw.bl (hbS.mono (by omega)), Nat.le_trans hzz hbS.size⟩
      case measure => simp [intOf]; omega
    ·obtain rfl : k = 6 := by omega
     have hE := (hx.chg hcw (by omega)).1
     have hV := ho.hvr.hv
     have k0 := ho.bx.c0; have k1 := ho.bx.c1; have e0 := hd.c0; have e1 := hd.c1
     have hct := sdet_c hdk hE hV HIS.out
     obtain ⟨dt, hdt⟩ : ∃ n, n = detH p st ⟨D, up⟩ := ⟨_, rfl⟩
     rw [<- hdt] at hct
     clear hdt
     go_wp2_with fail
     refine hct.mono ?_; rintro e w7 ⟨rfl, hb7⟩
     have ho := ho.below hb7; have hd := hd.below hb7; have hr := hr.below hb7; have hs := hs.below hb7; have hcw := hcw.bl (hb7.mono hcw.size); have hzz : N + 1 <= w7.heap.size := Nat.le_trans hzz hb7.size
     by_cases hdt0 : dt = 0
     ·subst hdt0
      go_wp2_with fail
      refine (snext_c hs (by decide) (by decide)).mono ?_; rintro e w8 ⟨y8, rfl, _, _, hsy, hcy, hzy⟩
      have ho := ho.chg hcy (by omega); have hd := hd.chg hcy (.inr (by omega)); have hr := hr.chg hcy (.inr (by omega)); have hs := hsy; have hcw := hcw.trans hcy; have hzz : N + 1 <= w8.heap.size := Nat.le_trans hzz hcy.size
      clear hzy hsy hcy
      by_cases hy8 : y8 = 0
      ·subst hy8
       have hE := (hx.chg hcw (by omega)).1
       have hV := ho.hvr.hv
       have k0 := ho.bx.c0; have k1 := ho.bx.c1; have e0 := hd.c0; have e1 := hd.c1
       go_wp2_with fail
       refine (sadj_c hdk hE hV HIS.out).mono ?_; rintro e w9 ⟨va, rfl, hfr, hb9⟩
       have hH := hfr.hvr
       have hHz := adjH_hsz hdk HIS.out
       have hlt9 := hb9.size
       clear hfr
       generalize adjH p st ⟨D, up⟩ = Y at *
       obtain ⟨da, ua, rfl, hda, hua⟩ := id hH
       obtain ⟨a1, c1, rfl, _⟩ := hda.1.op
       obtain ⟨b1, c2, rfl, _⟩ := id hua
       clear hda hua
       have ho := ho.below hb9; have hd := hd.below hb9; have hr := hr.below hb9; have hs := hs.below hb9; have hcw := hcw.bl (hb9.mono hcw.size); have hzz : N + 1 <= w9.heap.size := Nat.le_trans hzz hb9.size
       have r0 := hr.c0; have r1 := hr.c1; have rf0 := hr.f0; have rf1 := hr.f1
       go_wp2_with fail
       refine bodyPost_ret (v := .agg #[.slice a1 Y.dg.length c1, .slice b1 Y.up.length c2]) (by simp [results, Tryz.results18, go_sem, r0, r1]) rfl ?_
       refine ⟨_, Y, rfl, ?_, hHz, ?_, ?_⟩
       ·exact ((hH.set_ (p := ⟨w.heap.size + 1, 0, none⟩) (by show w.heap.size + 1 < _; omega) _).set_ (p := ⟨w.heap.size + 1, 1, none⟩) (by show w.heap.size + 1 < _; omega) _).more (by omega)
       ·exact hs.bl (B := q + 1) (((Below.refl _ _).setCell (p := ⟨w.heap.size + 1, 0, none⟩) (by show _ <= w.heap.size + 1; omega) _).setCell (p := ⟨w.heap.size + 1, 1, none⟩) (by show _ <= w.heap.size + 1; omega) _) (by omega)
       ·exact hcw.bl (((Below.refl _ _).setCell (p := ⟨w.heap.size + 1, 0, none⟩) (by show _ <= w.heap.size + 1; omega) _).setCell (p := ⟨w.heap.size + 1, 1, none⟩) (by show _ <= w.heap.size + 1; omega) _)
      ·have hy8b : (y8 == 0) = false := by simpa using hy8
       go_wp2_with fail
       refine (snext_c hs (by decide) (by decide)).mono ?_; rintro e wz ⟨z, rfl, _, _, hsz, hcz, hzz2⟩
       have hoz := ho.chg hcz (by omega); have hrz := hr.chg hcz (.inr (by omega))
       have hcwz := hcw.trans hcz
       have hzw := hcwz.size
       clear hzz2
       have hHv := hoz.hvr
       have k0 := hoz.bx.c0; have k1 := hoz.bx.c1; have v0 := hoz.bx.f0; have v1 := hoz.bx.f1
       have r0 := hrz.c0; have r1 := hrz.c1; have rf0 := hrz.f0; have rf1 := hrz.f1
       by_cases hz0 : z = 0
       ·subst hz0
        obtain ⟨g, cap, hge, hcap1, hcap2, hAt⟩ := hoz.od.atX HDL.out (by decide)
        cases hge
        go_wp2_with fail
        refine bodyPost_ret (v := .agg #[.slice (some ⟨g, 1, none⟩) 2 (cd - 1), .slice bu us.length mu]) (by simp [results, Tryz.results18, go_sem, r0, r1]) rfl ?_
        refine ⟨_, ⟨D.drop 1, up⟩, rfl, ?_, ⟨by show (D.drop 1).length <= _; rw [List.length_drop]; have h3 := HDL.out; omega, hX.h2, hX.h3⟩, ?_, ?_⟩
        ·exact ((((hHv.drop HDL.out (by decide)).set_ (p := ⟨N, 0, none⟩) (by show N < N + 1; omega) _).set_ (p := ⟨w.heap.size + 1, 0, none⟩) (by show w.heap.size + 1 < N + 1; omega) _).set_ (p := ⟨w.heap.size + 1, 1, none⟩) (by show w.heap.size + 1 < N + 1; omega) _).more (by omega)
        ·exact hsz.bl (B := q + 1) ((((Below.refl _ _).setCell (p := ⟨N, 0, none⟩) (by show _ <= N; omega) _).setCell (p := ⟨w.heap.size + 1, 0, none⟩) (by show _ <= w.heap.size + 1; omega) _).setCell (p := ⟨w.heap.size + 1, 1, none⟩) (by show _ <= w.heap.size + 1; omega) _) (by omega)
        ·exact hcwz.bl ((((Below.refl _ _).setCell (p := ⟨N, 0, none⟩) (by show _ <= N; omega) _).setCell (p := ⟨w.heap.size + 1, 0, none⟩) (by show _ <= w.heap.size + 1; omega) _).setCell (p := ⟨w.heap.size + 1, 1, none⟩) (by show _ <= w.heap.size + 1; omega) _)
       ·have hzb : (z == 0) = false := by simpa using hz0
        go_wp2_with fail
        refine bodyPost_ret (v := .agg #[.slice ad nd cd, .slice bu us.length mu]) (by simp [results, Tryz.results18, go_sem, r0, r1]) rfl ?_
        refine ⟨_, ⟨D, up⟩, rfl, ?_, hX, ?_, ?_⟩
        ·exact ((hHv.set_ (p := ⟨w.heap.size + 1, 0, none⟩) (by show w.heap.size + 1 < N + 1; omega) _).set_ (p := ⟨w.heap.size + 1, 1, none⟩) (by show w.heap.size + 1 < N + 1; omega) _).more (by omega)
        ·exact hsz.bl (B := q + 1) (((Below.refl _ _).setCell (p := ⟨w.heap.size + 1, 0, none⟩) (by show _ <= w.heap.size + 1; omega) _).setCell (p := ⟨w.heap.size + 1, 1, none⟩) (by show _ <= w.heap.size + 1; omega) _) (by omega)
        ·exact hcwz.bl (((Below.refl _ _).setCell (p := ⟨w.heap.size + 1, 0, none⟩) (by show _ <= w.heap.size + 1; omega) _).setCell (p := ⟨w.heap.size + 1, 1, none⟩) (by show _ <= w.heap.size + 1; omega) _)
     ·have hdtb : (dt == 0) = false := by simpa using hdt0
      go_wp2_with fail
      refine (snext_c hs (by decide) (by decide)).mono ?_; rintro e wz ⟨z, rfl, _, _, hsz, hcz, hzz2⟩
      have hoz := ho.chg hcz (by omega); have hrz := hr.chg hcz (.inr (by omega))
      have hcwz := hcw.trans hcz
      have hzw := hcwz.size
      clear hzz2
      have hHv := hoz.hvr
      have k0 := hoz.bx.c0; have k1 := hoz.bx.c1; have v0 := hoz.bx.f0; have v1 := hoz.bx.f1
      have r0 := hrz.c0; have r1 := hrz.c1; have rf0 := hrz.f0; have rf1 := hrz.f1
      by_cases hz0 : z = 0
      ·subst hz0
       obtain ⟨g, cap, hge, hcap1, hcap2, hAt⟩ := hoz.od.atX HDL.out (by decide)
       cases hge
       go_wp2_with fail
       refine bodyPost_ret (v := .agg #[.slice (some ⟨g, 1, none⟩) 2 (cd - 1), .slice bu us.length mu]) (by simp [results, Tryz.results18, go_sem, r0, r1]) rfl ?_
       refine ⟨_, ⟨D.drop 1, up⟩, rfl, ?_, ⟨by show (D.drop 1).length <= _; rw [List.length_drop]; have h3 := HDL.out; omega, hX.h2, hX.h3⟩, ?_, ?_⟩
       ·exact ((((hHv.drop HDL.out (by decide)).set_ (p := ⟨N, 0, none⟩) (by show N < N + 1; omega) _).set_ (p := ⟨w.heap.size + 1, 0, none⟩) (by show w.heap.size + 1 < N + 1; omega) _).set_ (p := ⟨w.heap.size + 1, 1, none⟩) (by show w.heap.size + 1 < N + 1; omega) _).more (by omega)
       ·exact hsz.bl (B := q + 1) ((((Below.refl _ _).setCell (p := ⟨N, 0, none⟩) (by show _ <= N; omega) _).setCell (p := ⟨w.heap.size + 1, 0, none⟩) (by show _ <= w.heap.size + 1; omega) _).setCell (p := ⟨w.heap.size + 1, 1, none⟩) (by show _ <= w.heap.size + 1; omega) _) (by omega)
       ·exact hcwz.bl ((((Below.refl _ _).setCell (p := ⟨N, 0, none⟩) (by show _ <= N; omega) _).setCell (p := ⟨w.heap.size + 1, 0, none⟩) (by show _ <= w.heap.size + 1; omega) _).setCell (p := ⟨w.heap.size + 1, 1, none⟩) (by show _ <= w.heap.size + 1; omega) _)
      ·have hzb : (z == 0) = false := by simpa using hz0
       go_wp2_with fail
       refine bodyPost_ret (v := .agg #[.slice ad nd cd, .slice bu us.length mu]) (by simp [results, Tryz.results18, go_sem, r0, r1]) rfl ?_
       refine ⟨_, ⟨D, up⟩, rfl, ?_, hX, ?_, ?_⟩
       ·exact ((hHv.set_ (p := ⟨w.heap.size + 1, 0, none⟩) (by show w.heap.size + 1 < N + 1; omega) _).set_ (p := ⟨w.heap.size + 1, 1, none⟩) (by show w.heap.size + 1 < N + 1; omega) _).more (by omega)
       ·exact hsz.bl (B := q + 1) (((Below.refl _ _).setCell (p := ⟨w.heap.size + 1, 0, none⟩) (by show _ <= w.heap.size + 1; omega) _).setCell (p := ⟨w.heap.size + 1, 1, none⟩) (by show _ <= w.heap.size + 1; omega) _) (by omega)
       ·exact hcwz.bl (((Below.refl _ _).setCell (p := ⟨w.heap.size + 1, 0, none⟩) (by show _ <= w.heap.size + 1; omega) _).setCell (p := ⟨w.heap.size + 1, 1, none⟩) (by show _ <= w.heap.size + 1; omega) _)
end Go.Proofs.YtilgbekffbphgaaGreat
