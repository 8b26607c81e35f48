import Derived.Test.YteaaepbnoiecoaaGreatJan
import Derived.Test.YteaaepbnoiecoaaGreatFlowR
namespace Go.Proofs.YteaaepbnoiecoaaGreat
open Go.RowKit
def Bd (w : World) (b : Nat) (x y : Value) : Prop := w.heap[b]? = some (.cells #[x, y] 26 (0, 0))
section
variable {w w' : World} {b : Nat} {x y : Value}
theorem Bd.lt (h : Bd w b x y) : b < w.heap.size := (Array.getElem?_eq_some_iff.1 h).1
theorem Bd.c0 (h : Bd w b x y) : w.cell? ⟨b, 0, none⟩ = some x := by
 unfold Bd at h; simp [World.cell?, h]
theorem Bd.c1 (h : Bd w b x y) : w.cell? ⟨b, 1, none⟩ = some y := by
 unfold Bd at h; simp [World.cell?, h]
theorem Bd.f (h : Bd w b x y) (k : Nat) : w.frozen? ⟨b, k, none⟩ = false := frozen_of_row _ _ _ _ _ h
theorem Bd.bl {B : Nat} (h : Bd w b x y) (hb : Below B w w') (hl : b < B) : Bd w' b x y := by
 unfold Bd at h ⊢
 rw [hb.block b hl]; exact h
theorem Bd.below (h : Bd w b x y) (hb : Below w.heap.size w w') : Bd w' b x y := h.bl hb h.lt
theorem Bd.chg {lo hi : Nat} (h : Bd w b x y) (hc : Chg lo hi w w') (hr : b < lo \/ hi <= b) : Bd w' b x y := by
 have hl := h.lt
 unfold Bd at h ⊢
 rw [hc.block b hl hr]; exact h
theorem Bd.set0 (h : Bd w b x y) (v : Value) : Bd (w.setCell ⟨b, 0, none⟩ v) b v y := heap_setCell_same _ _ _ _ _ _ h
theorem Bd.set1 (h : Bd w b x y) (v : Value) : Bd (w.setCell ⟨b, 1, none⟩ v) b x v := heap_setCell_same _ _ _ _ _ _ h
end
theorem OwN.chg {w w' : World} {B lo hi : Nat} {v : Value} {xs : List Int} (ho : OwN w B v xs) (h : Chg lo hi w w') (hr : hi <= B) : OwN w' B v xs :=
 ownsRow_chg h ho (fun g hg => .inr (Nat.le_trans hr (OwN.lt ho g hg).1))
theorem OwN.form {w : World} {B : Nat} {v : Value} {xs : List Int} (h : OwN w B v xs) : ∃ a n c, v = .slice a n c := by
 rcases h.2 with h2 | ⟨g', cap', cur, rfl, _⟩
 ·exact ⟨_, _, _, h2.1⟩
 ·exact ⟨_, _, _, rfl⟩
theorem OwN.more_ {w : World} {B B' : Nat} {v : Value} {xs : List Int} (h : OwN w B v xs) (hB : B' <= B) : OwN w B' v xs := by
 refine ⟨h.1, ?_⟩
 rcases h.2 with h2 | ⟨g', cap', cur, rfl, h3, h4⟩
 ·exact .inl h2
 ·exact .inr ⟨g', cap', cur, rfl, Nat.le_trans hB h3, h4⟩
def DrD (w : World) (q : Nat) (lo hi : Int) (n : Nat) (e : Ending) (w' : World) : Prop := ∃ (p : Int) (v : Value) (st : List Int), e = .returned (.agg #[.int .i64 p, v]) /\ lo <= p /\ p <= hi /\ st.length <= n /\ OwN w' w.heap.size v st /\ Src w' q /\ Chg q (q + 1) w w'
set_option maxHeartbeats 16000000 in
set_option maxRecDepth 100000 in
theorem sdraw_c {q : Nat} {m : Int} {w : World} (hs : Src w q) (hm1 : -9223372036854775808 <= m) (hm2 : m <= 9223372036854775807) :
  Calls Tryz.prog 71 #[.pointer (some ⟨q, 0, none⟩), .int .i64 m] w fun e w' => DrD w q 3 13 4 e w' := by
 have hq := hs.lt
 go_enter Tryz.func71, Tryz.ntmps71
 go_wp2_with fail
 obtain ⟨W1, hW1⟩ : ∃ x, x = ((w.alloc (.cells #[.int .i64 0, .slice none 0 0] 26)).alloc (.cells #[.int .i64 3, .int .i64 5, .int .i64 7, .int .i64 11, .int .i64 13] 2)) := ⟨_, rfl⟩
 have hb1 : Below w.heap.size w W1 := by rw [hW1]; exact bwT
 have hz1 : W1.heap.size = w.heap.size + 1 + 1 := by rw [hW1]; simp
 have o1 : OwnI W1 (w.heap.size + 1) (w.heap.size + 1) 5 5 [3, 5, 7, 11, 13] := by
  rw [hW1]
  have h := OwnI.lit (w := w.alloc (.cells #[.int .i64 0, .slice none 0 0] 26)) (B := w.heap.size + 1) (by simp) [3, 5, 7, 11, 13] (by simp)
  simpa using h
 have hr1 : Bd W1 w.heap.size (.int .i64 0) (.slice none 0 0) := by rw [hW1]; exact Bd.below (heap_alloc_new w _) bwT
 rw [<- hW1]; clear hW1
 refine (spick_c (hs.below hb1) o1 (by omega) (by decide) (by decide)).mono ?_; rintro e w1 ⟨p, rfl, hp, hs1, hc1, hy1⟩
 have hp2 : 3 <= p /\ p <= 13 := by simp at hp; omega
 clear hp o1
 have hr := hr1.chg hc1 (.inr (by omega))
 go_wp2_with fail
 obtain ⟨W2, hW2⟩ : ∃ x, x = ((w1.alloc (.cells #[.int .i64 p, .slice none 0 0] 26)).alloc (.cells #[.int .i64 0, .int .i64 1, .int .i64 2, .int .i64 2, .int .i64 3, .int .i64 3, .int .i64 3, .int .i64 4] 2)) := ⟨_, rfl⟩
 have hb2 : Below w1.heap.size w1 W2 := by rw [hW2]; exact bwT
 have hz2 : W2.heap.size = w.heap.size + 1 + 1 + 1 + 1 := by rw [hW2]; simp; omega
 have o2 : OwnI W2 (w.heap.size + 1 + 1 + 1) (w.heap.size + 1 + 1 + 1) 8 8 [0, 1, 2, 2, 3, 3, 3, 4] := by
  rw [hW2]
  have h := OwnI.lit (w := w1.alloc (.cells #[.int .i64 p, .slice none 0 0] 26)) (B := w.heap.size + 1 + 1 + 1) (by simp; omega) [0, 1, 2, 2, 3, 3, 3, 4] (by simp)
  rw [show (w1.alloc (.cells #[.int .i64 p, .slice none 0 0] 26)).heap.size = w.heap.size + 1 + 1 + 1 by simp; omega] at h
  simpa using h
 have hd2 : Bd W2 (w.heap.size + 1 + 1) (.int .i64 p) (.slice none 0 0) := by
  rw [hW2]
  have h : Bd (w1.alloc (.cells #[.int .i64 p, .slice none 0 0] 26)) w1.heap.size (.int .i64 p) (.slice none 0 0) := heap_alloc_new w1 _
  rw [show w1.heap.size = w.heap.size + 1 + 1 by omega] at h
  exact h.below bwT
 rw [<- hW2]; clear hW2
 have hr2 := hr.below hb2
 refine (spick_c (hs1.below hb2) o2 (by omega) (by decide) (by decide)).mono ?_; rintro e w2 ⟨x, rfl, hx, hs2, hc2, hy2⟩
 have hx2 : 0 <= x /\ x <= 4 := by simp at hx; omega
 clear hx o2
 have hr := hr2.chg hc2 (.inr (by omega))
 have hd := hd2.chg hc2 (.inr (by omega))
 have hcw : Chg q (q + 1) w w2 := ((((Chg.refl).bl hb1).trans hc1).bl (hb2.mono (by omega))).trans hc2
 clear hr1 hr2 hd2 hb1 hb2 hc1 hc2 hs1
 have hsz : w2.heap.size = w.heap.size + 1 + 1 + 1 + 1 := by omega
 clear hy1 hy2 hz1 hz2
 have HSZ := Lib.hid hsz; clear hsz
 go_wp2
 all_goals
  go_loopw [6] (fun i wr => ∃ (k : Int) (v : Value) (st : List Int), i = .int .i64 k /\ -9223372036854775808 <= k /\ k <= 4 /\ (st.length : Int) + k <= 4 /\ st.length <= 4 /\ Bd wr (w.heap.size + 1 + 1) (.int .i64 p) v /\ OwN wr (w.heap.size + 1 + 1 + 1) v st /\ Bd wr w.heap.size (.int .i64 0) (.slice none 0 0) /\ Src wr q /\ Chg q (q + 1) w wr /\ w.heap.size + 1 + 1 + 1 <= wr.heap.size) (fun i _ => (intOf i).toNat)
  case atStart => exact ⟨_, _, [], rfl, by omega, by omega, by simp; omega, by simp, hd, OwN.nil _ _, hr, hs2, hcw, by have := HSZ.out; omega⟩
  case round =>
   clear hd hr hs2 hcw
   obtain ⟨k, v, st, rfl, hk1, hk2, hl1, hl2, hd, ho, hr, hsr, hcr, hsz⟩ := hrel
   have e0 := hd.c0; have e1 := hd.c1
   by_cases hlt : 0 < k
   ·go_wp2_with fail
    refine (snext_c hsr (by decide) (by decide)).mono ?_; rintro e w3 ⟨x3, rfl, hx0, hx1, hs3, hc3, hz3⟩
    have HZ3 := Lib.hid hz3; clear hz3
    have hw3 : w.heap.size + 1 + 1 + 1 <= w3.heap.size := by have := HZ3.out; omega
    have hd := hd.chg hc3 (.inr (by omega)); have hr := hr.chg hc3 (.inr (by omega)); have ho := ho.chg hc3 (by omega)
    have hcw := hcr.trans hc3
    clear hcr hsr hc3
    have e0 := hd.c0; have e1 := hd.c1; have u1 := hd.f 1
    by_cases hx : x3 = 0
    ·subst hx
     have hoW := ho
     go_wp2_with (at_builtin; refine appn_one rfl _ _ rfl w3 (w.heap.size + 1 + 1 + 1) _ rfl v st rfl (p - 1) 1 rfl ho (by omega) (by omega) ?_; intro g' cap' w' hown' hgb' hg' hge; have hd' := hd.bl hgb' (by omega); have e0 := hd'.c0; have e1 := hd'.c1; have u1 := hd'.f 1)
     go_wp2
     go_roundw
     case rel =>
      refine ⟨k - 1, .slice (some ⟨g', 0, none⟩) (st.length + 1) cap', st ++ [(p - 1)], by go_num, by omega, by omega, ?_, ?_, hd'.set1 _, ?_, ?_, ?_, ?_, ?_⟩
      ·rw [List.length_append]; simp; omega
      ·rw [List.length_append]; simp; omega
      ·exact hown'.set_ (by show w.heap.size + 1 + 1 < _; omega) _
      ·exact (hr.bl hgb' (by omega)).bl (B := w.heap.size + 1) ((Below.refl _ _).setCell (p := ⟨w.heap.size + 1 + 1, 1, none⟩) (by show _ <= w.heap.size + 1 + 1; omega) _) (by omega)
      ·exact (hs3.bl hgb' (by omega)).bl (B := q + 1) ((Below.refl _ _).setCell (p := ⟨w.heap.size + 1 + 1, 1, none⟩) (by show _ <= w.heap.size + 1 + 1; omega) _) (by omega)
      ·exact hcw.bl ((hgb'.mono (by omega)).setCell (p := ⟨w.heap.size + 1 + 1, 1, none⟩) (by show _ <= w.heap.size + 1 + 1; omega) _)
      ·have := hgb'.size; simp; omega
     case measure => simp [intOf]; omega
    ·have hne : (x3 == 0) = false := by simpa using hx
     go_upto_region 7 with fail
     refine @region_flowR ⟨q, q + 1⟩ _ [(false, [(0, 0), (1, 1), (2, 0), (3, 0), (4, 1), (5, 0), (6, 5)]), (false, [(7, 0), (8, 5)]), (false, [(9, 4), (10, 0), (11, 4)])] _ _ _ _ _ (by kernel_rfl) ?_
     refine norm_K fun K hK => ?_
     change wpList _ _ _ [_, _, _, _, _, _, _] _ _
     have hbq : Below w3.heap.size w3 w3.drew := bwT
     have hsd := hs3.below hbq; have hdd := hd.below hbq; have hod := ho.below hbq; have hrd := hr.below hbq
     have hcd : Chg q (q + 1) w w3.drew := hcw.trans Chg.drew_
     have hzd : w.heap.size + 1 + 1 + 1 <= w3.drew.heap.size := hw3
     generalize w3.drew = wq at *
     have e0 := hdd.c0; have e1 := hdd.c1
     go_wp2_with fail
     refine (snext_c (n := p - 1) hsd (by omega) (by omega)).mono ?_; rintro e w4 ⟨x4, rfl, hx40, hx41, hs4, hc4, hz4⟩
     have hx42 : 0 <= x4 /\ x4 <= 12 := by omega
     have HZ4 := Lib.hid hz4; clear hz4
     have hw4 : w.heap.size + 1 + 1 + 1 <= w4.heap.size := by have := HZ4.out; omega
     have hd4 := hdd.chg hc4 (.inr (by omega)); have ho4 := hod.chg hc4 (by omega); have hr4 := hrd.chg hc4 (.inr (by omega))
     go_wp2_with fail
     first | (refine hK _ _ ⟨hc4, ?_⟩; clear hK K) | refine ⟨hc4, ?_⟩
     refine norm_K fun K hK => ?_
     change wpList _ _ _ [_, _] _ _
     go_wp2_with fail
     first | (refine hK _ _ ⟨hc4.trans (Chg.below (bwA (Below.refl _ _) _)), ?_⟩; clear hK K) | refine ⟨hc4.trans (Chg.below (bwA (Below.refl _ _) _)), ?_⟩
     refine norm_K fun K hK => ?_
     change wpList _ _ _ [_, _, _] _ _
     go_wp2_with (at_builtin; refine appn_one rfl _ _ rfl w4 (w.heap.size + 1 + 1 + 1) _ rfl v st rfl (1 + x4) 1 rfl ho4 (by omega) (by omega) ?_; intro g' cap' w' hown' hgb' hg' hge; have hd' := hd4.bl hgb' (by omega); have e0 := hd'.c0; have e1 := hd'.c1; have u1 := hd'.f 1)
     first | (refine hK _ _ ⟨⟨rfl, ?_⟩, ?_⟩; clear hK K) | refine ⟨⟨rfl, ?_⟩, ?_⟩
     ·repeat' (first | exact trivial | exact ⟨_, rfl, (show w.heap.size + 1 + 1 < q \/ q + 1 <= w.heap.size + 1 + 1 by omega), _, _, _, hdd⟩ | refine And.intro ?_ ?_)
     go_wp2
     go_roundw
     case rel =>
      refine ⟨k - 1, .slice (some ⟨g', 0, none⟩) (st.length + 1) cap', st ++ [1 + x4], by go_num, by omega, by omega, ?_, ?_, hd'.set1 _, ?_, ?_, ?_, ?_, ?_⟩
      ·rw [List.length_append]; simp; omega
      ·rw [List.length_append]; simp; omega
      ·exact hown'.set_ (by show w.heap.size + 1 + 1 < _; omega) _
      ·exact (hr4.bl hgb' (by omega)).bl (B := w.heap.size + 1) ((Below.refl _ _).setCell (p := ⟨w.heap.size + 1 + 1, 1, none⟩) (by show _ <= w.heap.size + 1 + 1; omega) _) (by omega)
      ·exact (hs4.bl hgb' (by omega)).bl (B := q + 1) ((Below.refl _ _).setCell (p := ⟨w.heap.size + 1 + 1, 1, none⟩) (by show _ <= w.heap.size + 1 + 1; omega) _) (by omega)
      ·exact (hcd.trans hc4).bl ((hgb'.mono (by omega)).setCell (p := ⟨w.heap.size + 1 + 1, 1, none⟩) (by show _ <= w.heap.size + 1 + 1; omega) _)
      ·have := hgb'.size; simp; omega
     case measure => simp [intOf]; omega
   ·obtain ⟨av, nv, cv, rfl⟩ := ho.form
    have rc0 := hr.c0; have rc1 := hr.c1; have rf0 := hr.f 0; have rf1 := hr.f 1
    go_wp2_with fail
    refine bodyPost_ret (v := .agg #[.int .i64 p, .slice av nv cv]) (by simp [results, Tryz.results71, go_sem, rc0, rc1]) rfl ?_
    refine ⟨p, _, st, rfl, hp2.1, hp2.2, hl2, ?_, ?_, ?_⟩
    ·exact ((ho.set_ (p := ⟨w.heap.size, 0, none⟩) (by show w.heap.size < _; omega) _).set_ (p := ⟨w.heap.size, 1, none⟩) (by show w.heap.size < _; omega) _).more_ (by omega)
    ·exact hsr.bl (B := q + 1) (((Below.refl _ _).setCell (p := ⟨w.heap.size, 0, none⟩) (by show _ <= w.heap.size; omega) _).setCell (p := ⟨w.heap.size, 1, none⟩) (by show _ <= w.heap.size; omega) _) (by omega)
    ·exact hcr.bl (((Below.refl _ _).setCell (p := ⟨w.heap.size, 0, none⟩) (Nat.le_refl _) _).setCell (p := ⟨w.heap.size, 1, none⟩) (Nat.le_refl _) _)
def stepsLeft (w : World) (N : Nat) : Nat := match w.cell? ⟨N, 1, none⟩ with
 | some (.slice _ n _) => 5 - n
 | _ => 0
theorem stepsLeft_eq {w : World} {N n c : Nat} {a : Option Addr} (h : w.cell? ⟨N, 1, none⟩ = some (.slice a n c)) : stepsLeft w N = 5 - n := by
 unfold stepsLeft; rw [h]
theorem OwN.len {w : World} {B n c : Nat} {a : Option Addr} {xs : List Int} (h : OwN w B (.slice a n c) xs) : n = xs.length := by
 rcases h.2 with h2 | ⟨g', cap', cur, e, _, _, _, _, _, _⟩
 ·cases h2.1; exact h2.2.symm
 ·cases e; rfl
theorem OwN.setN {w : World} {B N k : Nat} {v : Value} {xs : List Int} (ho : OwN w B v xs) (hne : ∀ g, v.ownBlock = some g -> g ≠ N) (u : Value) : OwN (w.setCell ⟨N, k, none⟩ u) B v xs :=
 ownsRow_chg (Chg.set w ⟨N, k, none⟩ u) ho (fun g hg => by have h1 := hne g hg; show g < N \/ N + 1 <= g; omega)
theorem Bd.grown {w w' : World} {b : Nat} {x y : Value} {row : Option Nat} (h : Bd w b x y) (hg : w.grownBy w' row) (hne : row ≠ some b) : Bd w' b x y := by
 have hl := h.lt
 unfold Bd at h ⊢
 rw [hg.block b hl (fun e => hne e.symm)]; exact h
set_option maxHeartbeats 8000000 in
set_option maxRecDepth 100000 in
theorem sdrawany_c {q : Nat} {m : Int} {w : World} (hs : Src w q) (hm1 : -9223372036854775808 <= m) (hm2 : m <= 9223372036854775807) :
  Calls Tryz.prog 34 #[.pointer (some ⟨q, 0, none⟩), .int .i64 m] w fun e w' => DrD w q 0 17 5 e w' := by
 have hq := hs.lt
 have hbA : Below w.heap.size w (w.alloc (.cells #[.int .i64 0, .slice none 0 0] 26)) := bwT
 have hrA : Bd (w.alloc (.cells #[.int .i64 0, .slice none 0 0] 26)) w.heap.size (.int .i64 0) (.slice none 0 0) := heap_alloc_new w _
 have hzA : (w.alloc (.cells #[.int .i64 0, .slice none 0 0] 26)).heap.size = w.heap.size + 1 := by simp
 have hsA := hs.below hbA
 go_enter Tryz.func34, Tryz.ntmps34
 go_wp2_with fail
 refine (sdraw_c hsA hm1 hm2).mono ?_; rintro e w1 ⟨p, v, st, rfl, hp1, hp2, hl, ho, hs1, hc1⟩
 have hz1 := hc1.size
 rw [hzA] at ho hz1
 have hr1 := hrA.chg hc1 (.inr (by omega))
 have hcw1 : Chg q (q + 1) w w1 := (Chg.refl.bl hbA).trans hc1
 clear hrA hzA hbA hsA hc1 hs
 obtain ⟨av, nv, cv, rfl⟩ := ho.form
 have hvN := fun g hg => (OwN.lt ho g hg).2
 obtain ⟨W2, hW2⟩ : ∃ x, x = (w1.alloc (.cells #[.int .i64 p, .slice av nv cv] 26)) := ⟨_, rfl⟩
 have hb2 : Below w1.heap.size w1 W2 := by rw [hW2]; exact bwT
 have hd2 : Bd W2 w1.heap.size (.int .i64 p) (.slice av nv cv) := by rw [hW2]; exact heap_alloc_new w1 _
 have hz2 : w1.heap.size + 1 = W2.heap.size := by rw [hW2]; simp
 go_wp2_with fail
 rw [<- hW2]; clear hW2
 refine (snext_c (hs1.below hb2) (by decide) (by decide)).mono ?_; rintro e w2 ⟨x, rfl, hx0, hx1, hs2, hc2, hz3⟩
 obtain ⟨N, hN⟩ : ∃ N, N = w1.heap.size := ⟨_, rfl⟩
 rw [<- hN] at hd2 hz2 hvN hz1 ⊢
 have hd := hd2.chg hc2 (.inr (by omega)); have hr := (hr1.below hb2).chg hc2 (.inr (by omega)); have ho := (ho.below hb2).chg hc2 (by omega)
 have hcw : Chg q (q + 1) w w2 := (hcw1.bl (hb2.mono (by omega))).trans hc2
 have hNz : N + 1 <= w2.heap.size := by omega
 have HN := Lib.hid hN; clear hN hz2 hz3 hd2 hr1 hcw1 hc2 hs1 hb2
 have e0 := hd.c0; have e1 := hd.c1; have u0 := hd.f 0; have u1 := hd.f 1
 by_cases hxa : x = 0
 ·subst hxa
  have hb4 : Below w2.heap.size w2 (w2.alloc (.cells #[.int .i64 2, .int .i64 9, .int .i64 17, .int .i64 0] 2)) := bwT
  have o4 := OwnI.lit (w := w2) (B := 0) (Nat.zero_le _) [2, 9, 17, 0] (by simp)
  go_wp2_with fail
  refine (spick_c (xs := [2, 9, 17, 0]) (hs2.below hb4) o4 (by have := hs2.lt; omega) (by decide) (by decide)).mono ?_; rintro e w3 ⟨y, rfl, hy, hs3, hc3, hz3⟩
  have hy2 : 0 <= y /\ y <= 17 := by simp at hy; omega
  clear hy o4 hz3
  have hd3 := (hd.below hb4).chg hc3 (.inr (by omega)); have hr3 := (hr.below hb4).chg hc3 (.inr (by omega)); have ho3 := (ho.below hb4).chg hc3 (by omega)
  have hcw3 : Chg q (q + 1) w w3 := (hcw.bl (hb4.mono (by have := hcw.size; omega))).trans hc3
  have u0 := hd3.f 0; have u1 := hd3.f 1; have a0 := hd3.c0; have a1 := hd3.c1
  have hd := hd3.set0 (.int .i64 y)
  have ho := OwN.setN (N := N) (k := 0) ho3 (fun g hg => by have := hvN g hg; omega) (.int .i64 y)
  have hr := hr3.bl (B := w.heap.size + 1) ((Below.refl _ _).setCell (p := ⟨N, 0, none⟩) (by show _ <= N; omega) (.int .i64 y)) (by omega)
  have hs2 := hs3.bl (B := q + 1) ((Below.refl _ _).setCell (p := ⟨N, 0, none⟩) (by show _ <= N; omega) (.int .i64 y)) (by omega)
  have hcw := hcw3.bl ((Below.refl _ _).setCell (p := ⟨N, 0, none⟩) (by show _ <= N; omega) (.int .i64 y))
  have rc0 := hr.c0; have rc1 := hr.c1; have rf0 := hr.f 0; have rf1 := hr.f 1; have e0 := hd.c0; have e1 := hd.c1
  go_wp2_with fail
  refine bodyPost_ret (v := .agg #[.int .i64 y, .slice av nv cv]) (by simp [results, Tryz.results34, go_sem, rc0, rc1]) rfl ?_
  refine ⟨y, _, st, rfl, by omega, by omega, by omega, ?_, ?_, ?_⟩
  ·exact ((ho.set_ (p := ⟨w.heap.size, 0, none⟩) (by show w.heap.size < _; omega) _).set_ (p := ⟨w.heap.size, 1, none⟩) (by show w.heap.size < _; omega) _).more_ (by omega)
  ·exact hs2.bl (B := q + 1) (((Below.refl _ _).setCell (p := ⟨w.heap.size, 0, none⟩) (by show _ <= w.heap.size; omega) _).setCell (p := ⟨w.heap.size, 1, none⟩) (by show _ <= w.heap.size; omega) _) (by omega)
  ·exact hcw.bl (((Below.refl _ _).setCell (p := ⟨w.heap.size, 0, none⟩) (Nat.le_refl _) _).setCell (p := ⟨w.heap.size, 1, none⟩) (Nat.le_refl _) _)
 have hx0_ : (x == 0) = false := by simpa using hxa
 by_cases hxb : x = 1
 ·subst hxb
  go_upto_region 6 with fail
  refine @region_flowR ⟨q, q + 1⟩ _ [(false, [(0, 0), (1, 1), (2, 0), (3, 0), (4, 1), (5, 5)]), (false, [(6, 5)]), (false, [(7, 5)]), (false, [(8, 4), (9, 0), (10, 4)])] _ _ _ _ _ (by kernel_rfl) ?_
  refine norm_K fun K hK => ?_
  change wpList _ _ _ [_, _, _, _, _, _] _ _
  have hbq : Below w2.heap.size w2 w2.drew := bwT
  have hsd := hs2.below hbq; have hdd := hd.below hbq; have hod := ho.below hbq; have hrd := hr.below hbq
  have hcd : Chg q (q + 1) w w2.drew := hcw.trans Chg.drew_
  have hzd : N + 1 <= w2.drew.heap.size := hNz
  generalize w2.drew = wq at *
  have e0 := hdd.c0; have e1 := hdd.c1
  go_wp2_with fail
  first | (refine hK _ _ ⟨Chg.below (bwA (Below.refl _ _) _), ?_⟩; clear hK K) | refine ⟨Chg.below (bwA (Below.refl _ _) _), ?_⟩
  refine norm_K fun K hK => ?_
  change wpList _ _ _ [_] _ _
  have hb5 : Below wq.heap.size wq (wq.alloc (.cells #[.int .i64 0, .int .i64 p] 2)) := bwT
  have o5 := OwnI.lit (w := wq) (B := 0) (Nat.zero_le _) [0, p] (by simp)
  go_wp2_with fail
  refine (spick_c (xs := [0, p]) (hsd.below hb5) o5 (by have := hsd.lt; omega) (by simp) (by simp)).mono ?_; rintro e w3 ⟨y, rfl, hy, hs3, hc3, hz3⟩
  have hz3b : N + 1 <= w3.heap.size := by simp at hz3; omega
  have hd3 := (hdd.below hb5).chg hc3 (.inr (by omega)); have hr3 := (hrd.below hb5).chg hc3 (.inr (by omega)); have ho3 := (hod.below hb5).chg hc3 (by omega)
  have hc35 : Chg q (q + 1) wq w3 := (Chg.below hb5).trans hc3
  have HZ3 := Lib.hid hz3; clear hz3 o5 hy
  go_wp2_with fail
  first | (refine hK _ _ ⟨hc35, ?_⟩; clear hK K) | refine ⟨hc35, ?_⟩
  refine norm_K fun K hK => ?_
  change wpList _ _ _ [_] _ _
  go_wp2_with fail
  first | (refine hK _ _ ⟨hc35.trans (Chg.below (bwA (Below.refl _ _) _)), ?_⟩; clear hK K) | refine ⟨hc35.trans (Chg.below (bwA (Below.refl _ _) _)), ?_⟩
  refine norm_K fun K hK => ?_
  change wpList _ _ _ [_, _, _] _ _
  have hvn : (Value.slice av nv cv).ownBlock ≠ some N := fun e => by have := hvN N e; omega
  go_wp2_with (at_builtin; refine appn_one rfl _ _ rfl w3 (w.heap.size + 1) _ rfl (.slice av nv cv) st rfl y 1 rfl ho3 (by omega) (by omega) ?_; intro g' cap' w' hown' hgb' hg' hge; have hd' := hd3.grown hg' hvn; have a0 := hd'.c0; have a1 := hd'.c1; have u0 := hd'.f 0; have u1 := hd'.f 1)
  first | (refine hK _ _ ⟨⟨rfl, ?_⟩, ?_⟩; clear hK K) | refine ⟨⟨rfl, ?_⟩, ?_⟩
  ·repeat' (first | exact trivial | exact ⟨_, rfl, (show N < q \/ q + 1 <= N by omega), _, _, _, hdd⟩ | refine And.intro ?_ ?_)
  have hg'N : g' ≠ N := by
   rcases hge with h | h
   ·have := hvN g' h; omega
   ·omega
  have hd := hd'.set1 (.slice (some ⟨g', 0, none⟩) (st.length + 1) cap')
  have ho := OwN.setN (N := N) (k := 1) hown' (fun g hg => by have e : g' = g := Option.some.inj hg; omega) (.slice (some ⟨g', 0, none⟩) (st.length + 1) cap')
  have hr := (hr3.bl hgb' (by omega)).bl (B := w.heap.size + 1) ((Below.refl _ _).setCell (p := ⟨N, 1, none⟩) (by show _ <= N; omega) (.slice (some ⟨g', 0, none⟩) (st.length + 1) cap')) (by omega)
  have hs2 := (hs3.bl hgb' (by omega)).bl (B := q + 1) ((Below.refl _ _).setCell (p := ⟨N, 1, none⟩) (by show _ <= N; omega) (.slice (some ⟨g', 0, none⟩) (st.length + 1) cap')) (by omega)
  have hcw := (hcd.trans hc35).bl ((hgb'.mono (by omega)).setCell (p := ⟨N, 1, none⟩) (by show _ <= N; omega) (.slice (some ⟨g', 0, none⟩) (st.length + 1) cap'))
  have rc0 := hr.c0; have rc1 := hr.c1; have rf0 := hr.f 0; have rf1 := hr.f 1; have e0 := hd.c0; have e1 := hd.c1
  go_wp2_with fail
  refine bodyPost_ret (v := .agg #[.int .i64 p, .slice (some ⟨g', 0, none⟩) (st.length + 1) cap']) (by simp [results, Tryz.results34, go_sem, rc0, rc1]) rfl ?_
  refine ⟨p, _, st ++ [y], rfl, by omega, by omega, by rw [List.length_append]; simp; omega, ?_, ?_, ?_⟩
  ·exact ((ho.set_ (p := ⟨w.heap.size, 0, none⟩) (by show w.heap.size < _; omega) _).set_ (p := ⟨w.heap.size, 1, none⟩) (by show w.heap.size < _; omega) _).more_ (by omega)
  ·exact hs2.bl (B := q + 1) (((Below.refl _ _).setCell (p := ⟨w.heap.size, 0, none⟩) (by show _ <= w.heap.size; omega) _).setCell (p := ⟨w.heap.size, 1, none⟩) (by show _ <= w.heap.size; omega) _) (by omega)
  ·exact hcw.bl (((Below.refl _ _).setCell (p := ⟨w.heap.size, 0, none⟩) (Nat.le_refl _) _).setCell (p := ⟨w.heap.size, 1, none⟩) (Nat.le_refl _) _)
 have hx1_ : (x == 1) = false := by simpa using hxb
 by_cases hxc : x = 2
 ·subst hxc
  go_wp2
  go_loopw [34] (fun _ wr => ∃ (a : Option Addr) (c : Nat) (st : List Int), st.length <= 5 /\ Bd wr N (.int .i64 p) (.slice a st.length c) /\ OwN wr (w.heap.size + 1) (.slice a st.length c) st /\ (∀ g, (Value.slice a st.length c).ownBlock = some g -> g ≠ N) /\ Bd wr w.heap.size (.int .i64 0) (.slice none 0 0) /\ Src wr q /\ Chg q (q + 1) w wr /\ N + 1 <= wr.heap.size) (fun _ wr => stepsLeft wr N)
  case atStart =>
   obtain rfl : nv = st.length := ho.len
   exact ⟨av, cv, st, by omega, hd, ho, fun g hg => by have := hvN g hg; omega, hr, hs2, hcw, hNz⟩
  case round =>
   clear hd hr ho hcw hs2 e0 e1 u0 u1 hvN
   obtain ⟨a, c, st, hl5, hd, ho, hvN, hr, hs2, hcw, hNz2⟩ := hrel
   have e0 := hd.c0; have e1 := hd.c1
   by_cases hlt : st.length < 5
   ·have hlt2 : ((st.length : Nat) : Int) < 5 := by omega
    go_wp2_with (at_builtin; refine appn_one rfl _ _ rfl wr (w.heap.size + 1) _ rfl (.slice a st.length c) st rfl 1 1 rfl ho (by omega) (by omega) ?_; intro g' cap' w' hown' hgb' hg' hge; have hd' := hd.grown hg' (fun e => hvN N e rfl); have a0 := hd'.c0; have a1 := hd'.c1; have u0 := hd'.f 0; have u1 := hd'.f 1)
    have hg'N : g' ≠ N := by
     rcases hge with h | h
     ·exact hvN g' h
     ·omega
    have hds := hd'.set1 (.slice (some ⟨g', 0, none⟩) (st.length + 1) cap')
    have e1' := hds.c1
    go_wp2
    go_roundw
    case rel =>
     refine ⟨some ⟨g', 0, none⟩, cap', st ++ [1], by rw [List.length_append]; simp; omega, by rw [List.length_append]; exact hds, by rw [List.length_append]; exact OwN.setN (N := N) (k := 1) hown' (fun g hg => by have e : g' = g := Option.some.inj hg; omega) _, fun g hg => by have e : g' = g := Option.some.inj hg; omega, ?_, ?_, ?_, ?_⟩
     ·exact (hr.bl hgb' (by omega)).bl (B := w.heap.size + 1) ((Below.refl _ _).setCell (p := ⟨N, 1, none⟩) (by show _ <= N; omega) _) (by omega)
     ·exact (hs2.bl hgb' (by omega)).bl (B := q + 1) ((Below.refl _ _).setCell (p := ⟨N, 1, none⟩) (by show _ <= N; omega) _) (by omega)
     ·exact hcw.bl ((hgb'.mono (by omega)).setCell (p := ⟨N, 1, none⟩) (by show _ <= N; omega) _)
     ·have := hgb'.size; simp; omega
    case measure => rw [stepsLeft_eq e1', stepsLeft_eq e1]; omega
   ·have hlt2 : ¬ ((st.length : Nat) : Int) < 5 := by omega
    have rc0 := hr.c0; have rc1 := hr.c1; have rf0 := hr.f 0; have rf1 := hr.f 1; have e0 := hd.c0; have e1 := hd.c1
    go_wp2_with fail
    refine bodyPost_ret (v := .agg #[.int .i64 p, .slice a st.length c]) (by simp [results, Tryz.results34, go_sem, rc0, rc1]) rfl ?_
    refine ⟨p, _, st, rfl, by omega, by omega, by omega, ?_, ?_, ?_⟩
    ·exact ((ho.set_ (p := ⟨w.heap.size, 0, none⟩) (by show w.heap.size < _; omega) _).set_ (p := ⟨w.heap.size, 1, none⟩) (by show w.heap.size < _; omega) _).more_ (by omega)
    ·exact hs2.bl (B := q + 1) (((Below.refl _ _).setCell (p := ⟨w.heap.size, 0, none⟩) (by show _ <= w.heap.size; omega) _).setCell (p := ⟨w.heap.size, 1, none⟩) (by show _ <= w.heap.size; omega) _) (by omega)
    ·exact hcw.bl (((Below.refl _ _).setCell (p := ⟨w.heap.size, 0, none⟩) (Nat.le_refl _) _).setCell (p := ⟨w.heap.size, 1, none⟩) (Nat.le_refl _) _)
 have hx2_ : (x == 2) = false := by simpa using hxc
 have rc0 := hr.c0; have rc1 := hr.c1; have rf0 := hr.f 0; have rf1 := hr.f 1; have e0 := hd.c0; have e1 := hd.c1
 go_wp2_with fail
 refine bodyPost_ret (v := .agg #[.int .i64 p, .slice av nv cv]) (by simp [results, Tryz.results34, go_sem, rc0, rc1]) rfl ?_
 refine ⟨p, _, st, rfl, by omega, by omega, by omega, ?_, ?_, ?_⟩
 ·exact ((ho.set_ (p := ⟨w.heap.size, 0, none⟩) (by show w.heap.size < _; omega) _).set_ (p := ⟨w.heap.size, 1, none⟩) (by show w.heap.size < _; omega) _).more_ (by omega)
 ·exact hs2.bl (B := q + 1) (((Below.refl _ _).setCell (p := ⟨w.heap.size, 0, none⟩) (by show _ <= w.heap.size; omega) _).setCell (p := ⟨w.heap.size, 1, none⟩) (by show _ <= w.heap.size; omega) _) (by omega)
 ·exact hcw.bl (((Below.refl _ _).setCell (p := ⟨w.heap.size, 0, none⟩) (Nat.le_refl _) _).setCell (p := ⟨w.heap.size, 1, none⟩) (Nat.le_refl _) _)
end Go.Proofs.YteaaepbnoiecoaaGreat
