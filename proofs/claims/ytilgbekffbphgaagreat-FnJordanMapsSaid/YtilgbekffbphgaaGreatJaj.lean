/- Texts joined for a claim: HcB, Tree. -/
import Derived.Test.YtilgbekffbphgaaGreatHcA
import Derived.Test.YtilgbekffbphgaaGreatFlow
namespace Go.Proofs.YtilgbekffbphgaaGreat
open Go.RowKit
theorem sl16is_c {p : Int} {s x : Value} {st : List Int} {X : Her} {w : World} (hd : Dok p st) (hs : El w s st) (hx : Hv w x X) (hz : Hsz X) :
  Calls Tryz.prog 46 #[.agg #[.int .i64 p, s], x] w fun e w' => e = .returned (.bool (isH p (sz st.length) X)) /\ Below w.heap.size w w' := by
 have hp1 := hd.hp.lo
 have hp2 := hd.hp.hi
 have hl3 := hd.hl
 obtain ⟨d, u, rfl, hxd, hxu⟩ := hx
 obtain ⟨a, c, rfl, _⟩ := id hs.op
 obtain ⟨ad, cd, rfl, _, _, hxd'⟩ := hxd.op
 obtain ⟨au, cu, rfl, _, _, hxu'⟩ := hxu
 by_cases h1 : X.dg.length = 3
 case neg =>
  have HN := Lib.hid (isH_dl (p := p) (n := sz st.length) h1)
  have hn : ((X.dg.length : Int) != 3) = true := by rw [bne_iff_ne]; omega
  go_enter Tryz.func46, Tryz.ntmps46
  have hb0 : Below w.heap.size w ((w.alloc (.cells #[.int .i64 p, .slice a st.length c] 26)).alloc (.cells #[.slice ad X.dg.length cd, .slice au X.up.length cu] 29)) := bwT
  have hs := hs.below hb0
  have d0 : ((w.alloc (.cells #[.int .i64 p, .slice a st.length c] 26)).alloc (.cells #[.slice ad X.dg.length cd, .slice au X.up.length cu] 29)).cell? ⟨w.heap.size, 0, none⟩ = some (.int .i64 p) := by simp [go_sem]
  have d1 : ((w.alloc (.cells #[.int .i64 p, .slice a st.length c] 26)).alloc (.cells #[.slice ad X.dg.length cd, .slice au X.up.length cu] 29)).cell? ⟨w.heap.size, 1, none⟩ = some (.slice a st.length c) := by simp [go_sem]
  have e0 : ((w.alloc (.cells #[.int .i64 p, .slice a st.length c] 26)).alloc (.cells #[.slice ad X.dg.length cd, .slice au X.up.length cu] 29)).cell? ⟨w.heap.size + 1, 0, none⟩ = some (.slice ad X.dg.length cd) := by simp [go_sem]
  have e1 : ((w.alloc (.cells #[.int .i64 p, .slice a st.length c] 26)).alloc (.cells #[.slice ad X.dg.length cd, .slice au X.up.length cu] 29)).cell? ⟨w.heap.size + 1, 1, none⟩ = some (.slice au X.up.length cu) := by simp [go_sem]
  go_wp2_with fail
  go_ret
  exact ⟨by rw [HN.out]; rfl, bwT⟩
 have hn : ((X.dg.length : Int) != 3) = false := by rw [bne_eq_false_iff_eq]; omega
 by_cases h3 : X.up.length = 3
 case neg =>
  have HN := Lib.hid (isH_ul (p := p) (n := sz st.length) h3)
  have hn2 : ((X.up.length : Int) != 3) = true := by rw [bne_iff_ne]; omega
  clear h1
  go_enter Tryz.func46, Tryz.ntmps46
  have hb0 : Below w.heap.size w ((w.alloc (.cells #[.int .i64 p, .slice a st.length c] 26)).alloc (.cells #[.slice ad X.dg.length cd, .slice au X.up.length cu] 29)) := bwT
  have hs := hs.below hb0
  have d0 : ((w.alloc (.cells #[.int .i64 p, .slice a st.length c] 26)).alloc (.cells #[.slice ad X.dg.length cd, .slice au X.up.length cu] 29)).cell? ⟨w.heap.size, 0, none⟩ = some (.int .i64 p) := by simp [go_sem]
  have d1 : ((w.alloc (.cells #[.int .i64 p, .slice a st.length c] 26)).alloc (.cells #[.slice ad X.dg.length cd, .slice au X.up.length cu] 29)).cell? ⟨w.heap.size, 1, none⟩ = some (.slice a st.length c) := by simp [go_sem]
  have e0 : ((w.alloc (.cells #[.int .i64 p, .slice a st.length c] 26)).alloc (.cells #[.slice ad X.dg.length cd, .slice au X.up.length cu] 29)).cell? ⟨w.heap.size + 1, 0, none⟩ = some (.slice ad X.dg.length cd) := by simp [go_sem]
  have e1 : ((w.alloc (.cells #[.int .i64 p, .slice a st.length c] 26)).alloc (.cells #[.slice ad X.dg.length cd, .slice au X.up.length cu] 29)).cell? ⟨w.heap.size + 1, 1, none⟩ = some (.slice au X.up.length cu) := by simp [go_sem]
  go_wp2_with fail
  go_ret
  exact ⟨by rw [HN.out]; rfl, bwT⟩
 have hn2 : ((X.up.length : Int) != 3) = false := by rw [bne_eq_false_iff_eq]; omega
 rcases hxd' with h0 | ⟨bd, od, rfl, hA⟩
 ·rw [h0] at h1; cases h1
 rcases hxu' with h0 | ⟨bu, ou, rfl, hR⟩
 ·rw [h0] at h3; cases h3
 have hX : isH p (sz st.length) X = (isL p X.dg && X.up.all (isE p (sz st.length))) := by unfold isH; simp [h1, h3]
 have H3 := Lib.hid (And.intro h1 (And.intro h3 hX)); clear h1 h3 hX
 have hW : Below w.heap.size w ((w.alloc (.cells #[.int .i64 p, .slice a st.length c] 26)).alloc (.cells #[.slice (some ⟨bd, od, none⟩) X.dg.length cd, .slice (some ⟨bu, ou, none⟩) X.up.length cu] 29)) := bwT
 go_enter Tryz.func46, Tryz.ntmps46
 have hb0 : Below w.heap.size w ((w.alloc (.cells #[.int .i64 p, .slice a st.length c] 26)).alloc (.cells #[.slice (some ⟨bd, od, none⟩) X.dg.length cd, .slice (some ⟨bu, ou, none⟩) X.up.length cu] 29)) := bwT
 have hs := hs.below hb0; have hA := hA.below hb0
 have d0 : ((w.alloc (.cells #[.int .i64 p, .slice a st.length c] 26)).alloc (.cells #[.slice (some ⟨bd, od, none⟩) X.dg.length cd, .slice (some ⟨bu, ou, none⟩) X.up.length cu] 29)).cell? ⟨w.heap.size, 0, none⟩ = some (.int .i64 p) := by simp [go_sem]
 have d1 : ((w.alloc (.cells #[.int .i64 p, .slice a st.length c] 26)).alloc (.cells #[.slice (some ⟨bd, od, none⟩) X.dg.length cd, .slice (some ⟨bu, ou, none⟩) X.up.length cu] 29)).cell? ⟨w.heap.size, 1, none⟩ = some (.slice a st.length c) := by simp [go_sem]
 have e0 : ((w.alloc (.cells #[.int .i64 p, .slice a st.length c] 26)).alloc (.cells #[.slice (some ⟨bd, od, none⟩) X.dg.length cd, .slice (some ⟨bu, ou, none⟩) X.up.length cu] 29)).cell? ⟨w.heap.size + 1, 0, none⟩ = some (.slice (some ⟨bd, od, none⟩) X.dg.length cd) := by simp [go_sem]
 have e1 : ((w.alloc (.cells #[.int .i64 p, .slice a st.length c] 26)).alloc (.cells #[.slice (some ⟨bd, od, none⟩) X.dg.length cd, .slice (some ⟨bu, ou, none⟩) X.up.length cu] 29)).cell? ⟨w.heap.size + 1, 1, none⟩ = some (.slice (some ⟨bu, ou, none⟩) X.up.length cu) := by simp [go_sem]
 go_wp2
 obtain ⟨W, hWe⟩ : ∃ W, W = ((w.alloc (.cells #[.int .i64 p, .slice a st.length c] 26)).alloc (.cells #[.slice (some ⟨bd, od, none⟩) X.dg.length cd, .slice (some ⟨bu, ou, none⟩) X.up.length cu] 29)) := ⟨_, rfl⟩
 rw [<- hWe] at hs hA d0 d1 e0 e1 hW ⊢
 have HW := Lib.hid hWe; clear hWe
 go_loopw [5] (fun i wr => ∃ k : Nat, k <= 3 /\ i = .int .i64 k /\ isL p (X.dg.take k) = true /\ (X.up.take k).all (isE p (sz st.length)) = true /\ Below W.heap.size W wr) (fun i _ => 3 - (intOf i).toNat)
 case atStart => exact ⟨0, by decide, rfl, rfl, rfl, Below.refl _ _⟩
 case round =>
  obtain ⟨k, hk, rfl, hr1, hr2, hb⟩ := hrel
  have hbw := bwC hW hb
  have k0 := kept hb d0; have k1 := kept hb d1; have k2 := kept hb e0; have k3 := kept hb e1
  have ks := hs.below hb
  by_cases hlt : k < 3
  ·obtain ⟨z, hz1, hc, ht⟩ := (hA.below hb).get (m := k) (by have := H3.out.1; omega)
   obtain ⟨a1, c1, xs, hxs, hc2, hx2, ht2⟩ := Re.get hR (m := k) (by have := H3.out.2.1; omega)
   have hc2 := kept hbw hc2
   have hx2 := hx2.below hbw
   have hmx := hz.h3 xs hxs
   have hl1 : k < X.dg.length := by have := H3.out.1; omega
   have hl2 : k < X.up.length := by have := H3.out.2.1; omega
   have H := Lib.hid (And.intro (And.intro (all_snoc (f := fun n => inR n 0 (p - 1)) hr1 ht) (@all_no _ (fun n => inR n 0 (p - 1)) _ _ hz1)) (And.intro (all_snoc hr2 ht2) (@all_no _ (isE p (sz st.length)) _ _ hxs))); clear hr1 hr2 ht ht2
   cases hv : inR z 0 (p - 1)
   ·go_wp2
    refine region_flow [(false, [(0, 0), (1, 1), (2, 0), (3, 0), (4, 1), (5, 0), (6, 1), (7, 0), (8, 4), (9, 0), (10, 0), (11, 1), (12, 0), (13, 1), (14, 0), (15, 0), (16, 1), (17, 4), (18, 0), (19, 0)])] (by kernel_rfl) ?_
    refine norm_K fun K hK => ?_
    change wpList _ _ _ [_, _, _, _, _, _, _, _, _, _, _, _, _, _, _, _, _, _, _, _] _ _
    go_wp2_with fail
    refine sin_c.mono ?_; rintro e w2 ⟨rfl, rfl⟩; simp only [hv]
    go_wp2_with fail
    first | (refine hK _ _ ⟨rfl, ?_⟩; clear hK K) | refine ⟨rfl, ?_⟩
    go_wp2_with fail
    go_ret
    exact ⟨by rw [H3.out.2.2, show isL p X.dg = false from H.out.1.2 hv]; rfl, bwC hW hb.drew⟩
   ·cases hv2 : isE p (sz st.length) xs
    ·go_wp2
     refine region_flow [(false, [(0, 0), (1, 1), (2, 0), (3, 0), (4, 1), (5, 0), (6, 1), (7, 0), (8, 4), (9, 0), (10, 0), (11, 1), (12, 0), (13, 1), (14, 0), (15, 0), (16, 1), (17, 4), (18, 0), (19, 0)])] (by kernel_rfl) ?_
     refine norm_K fun K hK => ?_
     change wpList _ _ _ [_, _, _, _, _, _, _, _, _, _, _, _, _, _, _, _, _, _, _, _] _ _
     go_wp2_with fail
     refine sin_c.mono ?_; rintro e w2 ⟨rfl, rfl⟩; simp only [hv]
     go_wp2_with fail
     refine (selem_c (ks.below bwT) (hx2.below bwT) (by omega) hmx (by omega) (by omega)).mono ?_; rintro e w3 ⟨rfl, hb3⟩; simp only [hv2]
     go_wp2_with fail
     first | (refine hK _ _ ⟨rfl, ?_⟩; clear hK K) | refine ⟨rfl, ?_⟩
     go_wp2_with fail
     go_ret
     exact ⟨by rw [H3.out.2.2, H.out.2.2 hv2, Bool.and_false]; rfl, bwC hW (bwC hb.drew hb3)⟩
    ·go_wp2
     refine region_flow [(false, [(0, 0), (1, 1), (2, 0), (3, 0), (4, 1), (5, 0), (6, 1), (7, 0), (8, 4), (9, 0), (10, 0), (11, 1), (12, 0), (13, 1), (14, 0), (15, 0), (16, 1), (17, 4), (18, 0), (19, 0)])] (by kernel_rfl) ?_
     refine norm_K fun K hK => ?_
     change wpList _ _ _ [_, _, _, _, _, _, _, _, _, _, _, _, _, _, _, _, _, _, _, _] _ _
     go_wp2_with fail
     refine sin_c.mono ?_; rintro e w2 ⟨rfl, rfl⟩; simp only [hv]
     go_wp2_with fail
     refine (selem_c (ks.below bwT) (hx2.below bwT) (by omega) hmx (by omega) (by omega)).mono ?_; rintro e w3 ⟨rfl, hb3⟩; simp only [hv2]
     go_wp2_with fail
     first | (refine hK _ _ ⟨rfl, ?_⟩; clear hK K) | refine ⟨rfl, ?_⟩
     go_wp2_with fail
     go_roundw
     case rel => exact ⟨k + 1, by omega, by go_num, by unfold isL; rw [H.out.1.1, hv], by rw [H.out.2.1, hv2], bwC hb.drew hb3⟩
     case measure => simp [intOf]; omega
  ·obtain rfl : k = 3 := by omega
   have e1 : X.dg.take 3 = X.dg := take_all (by have := H3.out.1; omega)
   have e2 : X.up.take 3 = X.up := take_all (by have := H3.out.2.1; omega)
   rw [e1] at hr1
   rw [e2] at hr2
   have H := Lib.hid (And.intro hr1 hr2); clear hr1 hr2 e1 e2
   go_wp2
   go_ret
   exact ⟨by rw [H3.out.2.2, H.out.1, H.out.2]; rfl, hbw⟩
theorem sl16_c {p : Int} {s l : Value} {st : List Int} {Xs : List Her} {w : World} (hs : El w s st) (hm : st.length <= 1048576) (hl : Lh w l Xs) (hz : ∀ X ∈ Xs, Hsz X) (hm2 : Xs.length <= 1000) :
  Calls Tryz.prog 25 #[.agg #[.int .i64 p, s], l] w fun e w' => e = .returned (.int .i64 (chkH p st Xs)) /\ Below w.heap.size w w' := by
 obtain ⟨a, c, rfl, _⟩ := id hs.op
 obtain ⟨a2, c2, rfl, hl2⟩ := id hl
 have hcon := fun W s (hs : El W s st) => sl14_c (w := W) (p := p) (x := s) hs hm
 by_cases h3 : chk3 p st [] = 0
 case neg =>
  rw [chkH_non h3]
  obtain ⟨k, hk⟩ : ∃ k, k = chk3 p st [] := ⟨_, rfl⟩
  simp only [<- hk] at hcon h3 ⊢
  clear hk
  have hne : (k == 0) = false := by simpa using h3
  go_enter Tryz.func25, Tryz.ntmps25
  have hb0 : Below w.heap.size w (w.alloc (.cells #[.int .i64 p, .slice a st.length c] 26)) := bwT
  have hs := hs.below hb0; have hl := hl.below hb0
  have d0 : (w.alloc (.cells #[.int .i64 p, .slice a st.length c] 26)).cell? ⟨w.heap.size, 0, none⟩ = some (.int .i64 p) := by simp [go_sem]
  have d1 : (w.alloc (.cells #[.int .i64 p, .slice a st.length c] 26)).cell? ⟨w.heap.size, 1, none⟩ = some (.slice a st.length c) := by simp [go_sem]
  go_wp2_with fail
  refine (hcon _ _ hs).mono ?_; rintro e w1 ⟨rfl, hb1⟩
  have hs := hs.below hb1; have hl := hl.below hb1; have d0 := kept hb1 d0; have d1 := kept hb1 d1
  go_wp2_with fail
  go_ret
  exact ⟨rfl, bwT⟩
 have hd := chk3_dok h3
 simp only [h3] at hcon
 clear h3
 rcases hl2 with rfl | ⟨b, off, rfl, hl2⟩
 ·rw [chkH_ok hd rfl]
  go_enter Tryz.func25, Tryz.ntmps25
  have hb0 : Below w.heap.size w (w.alloc (.cells #[.int .i64 p, .slice a st.length c] 26)) := bwT
  have hs := hs.below hb0
  have d0 : (w.alloc (.cells #[.int .i64 p, .slice a st.length c] 26)).cell? ⟨w.heap.size, 0, none⟩ = some (.int .i64 p) := by simp [go_sem]
  have d1 : (w.alloc (.cells #[.int .i64 p, .slice a st.length c] 26)).cell? ⟨w.heap.size, 1, none⟩ = some (.slice a st.length c) := by simp [go_sem]
  go_wp2_with fail
  refine (hcon _ _ hs).mono ?_; rintro e w1 ⟨rfl, hb1⟩
  have hs := hs.below hb1; have d0 := kept hb1 d0; have d1 := kept hb1 d1
  go_wp2_with fail
  refine wp_loop_rounds 1 ?_; rw [rounds_succ]
  go_wp2_with fail
  go_ret
  exact ⟨rfl, bwT⟩
 go_enter Tryz.func25, Tryz.ntmps25
 have hb0 : Below w.heap.size w (w.alloc (.cells #[.int .i64 p, .slice a st.length c] 26)) := bwT
 have hs := hs.below hb0
 have d0 : (w.alloc (.cells #[.int .i64 p, .slice a st.length c] 26)).cell? ⟨w.heap.size, 0, none⟩ = some (.int .i64 p) := by simp [go_sem]
 have d1 : (w.alloc (.cells #[.int .i64 p, .slice a st.length c] 26)).cell? ⟨w.heap.size, 1, none⟩ = some (.slice a st.length c) := by simp [go_sem]
 go_wp2_with fail
 refine (hcon _ _ hs).mono ?_; rintro e w1 ⟨rfl, hb1⟩
 have hs := hs.below hb1; have d0 := kept hb1 d0; have d1 := kept hb1 d1
 go_wp2_with fail
 have hwb : Below w.heap.size w w1 := bwT
 go_loopw [6] (fun i wr => ∃ k : Nat, k <= Xs.length /\ i = .int .i64 k /\ (Xs.take k).all (isH p (sz st.length)) = true /\ Below w1.heap.size w1 wr) (fun i _ => Xs.length - (intOf i).toNat)
 case atStart => exact ⟨0, Nat.zero_le _, rfl, rfl, Below.refl _ _⟩
 case round =>
  obtain ⟨k, hk, rfl, hr, hb⟩ := hrel
  by_cases hlt : k < Xs.length
  ·obtain ⟨d, u, X, hX, hc0, hc1, hxv, ht⟩ := Lh.get hl2 hlt
   have hbw := bwC hwb hb
   have hc0 := kept hbw hc0
   have hc1 := kept hbw hc1
   have hxv := hxv.below hbw
   have g0 := kept hb d0
   have g1 := kept hb d1
   have gs := hs.below hb
   have hzx := hz X hX
   have H := Lib.hid (And.intro (all_snoc hr ht) (@all_no _ (isH p (sz st.length)) _ _ hX)); clear hr ht
   cases hv : isH p (sz st.length) X
   ·go_wp2
    refine region_flow [(false, [(0, 1), (1, 0), (2, 0), (3, 0), (4, 1), (5, 4), (6, 0)])] (by kernel_rfl) ?_
    refine norm_K fun K hK => ?_
    change wpList _ _ _ [_, _, _, _, _, _, _] _ _
    go_wp2_with fail
    refine (sl16is_c hd (gs.below bwT) (hxv.below bwT) hzx).mono ?_; rintro e w2 ⟨rfl, hb2⟩; simp only [hv]
    go_wp2_with fail
    first | (refine hK _ _ ⟨rfl, ?_⟩; clear hK K) | refine ⟨rfl, ?_⟩
    go_wp2_with fail
    go_ret
    exact ⟨by rw [chkH_ran hd (H.out.2 hv)]; rfl, bwC hbw.drew hb2⟩
   ·go_wp2
    refine region_flow [(false, [(0, 1), (1, 0), (2, 0), (3, 0), (4, 1), (5, 4), (6, 0)])] (by kernel_rfl) ?_
    refine norm_K fun K hK => ?_
    change wpList _ _ _ [_, _, _, _, _, _, _] _ _
    go_wp2_with fail
    refine (sl16is_c hd (gs.below bwT) (hxv.below bwT) hzx).mono ?_; rintro e w2 ⟨rfl, hb2⟩; simp only [hv]
    go_wp2_with fail
    first | (refine hK _ _ ⟨rfl, ?_⟩; clear hK K) | refine ⟨rfl, ?_⟩
    go_wp2_with fail
    go_roundw
    case rel => exact ⟨k + 1, by omega, by go_num, by rw [H.out.1, hv], bwC hb.drew hb2⟩
    case measure => simp [intOf]; omega
  ·have e : Xs.take k = Xs := take_all (by omega)
   rw [e] at hr
   have H := Lib.hid hr; clear hr e
   go_wp2
   go_ret
   exact ⟨by rw [chkH_ok hd H.out]; rfl, bwC hwb hb⟩
section
variable {P : Program} {ops : Array Oper}
inductive Tr where
 | lin (segs : List (Bool × List (Nat × Nat)))
 | two (i m : Nat) (s : Tr) (j n : Nat) (t : Tr)
def Tr.lenOk : Tr -> Nat -> Bool
 | .lin segs, k => (flat segs).length == k
 | .two _ _ _ _ _ _, 0 => false
 | .two _ _ s _ _ t, k + 1 => s.lenOk k && t.lenOk k
def Tr.acts : Tr -> Nat -> Bool
 | .lin segs, i => (flat segs).any fun p => p.1 == i && decide (2 <= p.2)
 | .two i _ s j _ t, k => i == k || j == k || s.acts k || t.acts k
def leafOk (P : Program) (ops : Array Oper) : Tr -> Bool
 | .lin segs => kindsOk P ops (flat segs) && stableB ops (segL ops (flat segs)) && segsOk segs
 | .two _ _ s _ _ t => leafOk P ops s && leafOk P ops t
def treeOk (P : Program) (ops : Array Oper) (F : Nat) (act : Nat -> Bool) : Tr -> Array Bool -> List (Nat × Nat) -> Bool -> Bool
 | .lin segs, listed, L, st => flowOk P ops F act (flat segs) listed L st
 | .two i m s j n t, listed, L, _ => Region.ready .any ops listed == [i, j] &&
   ((ops[i]?).isSome && decide (2 <= m) && act i && actOk ops F i m L && treeOk P ops F act s (listed.setIfInBounds i true) (L.map fun l => (l.1, actNext m l.2)) true) &&
   ((ops[j]?).isSome && decide (2 <= n) && act j && actOk ops F j n L && treeOk P ops F act t (listed.setIfInBounds j true) (L.map fun l => (l.1, actNext n l.2)) true)
def stepA (P : Program) (ops : Array Oper) (w0 : World) (i m : Nat) (K : Act -> World -> Prop) (a : Act) (w : World) : Prop := match ops[i]? with
 | none => False
 | some o => if Region.wanted o (yielded ops a.tmps) = true then o.wp P a w (fun a' w' => obl m w0 w w' /\ K a' w') NoQ else obl m w0 w w /\ K (a.put o.dst undef) w
def wpTree (P : Program) (ops : Array Oper) (Q : Act -> World -> Prop) (w0 : World) : Tr -> Act -> World -> Prop
 | .lin segs, a, w => wpFlow P ops Q w0 (flat segs) a w
 | .two i m s j n t, a, w => stepA P ops w0 i m (wpTree P ops Q w0 s) a w /\ stepA P ops w0 j n (wpTree P ops Q w0 t) a w
theorem act_stepK {F i m : Nat} {act : Nat -> Bool} {Q : Act -> World -> Prop} {w0 : World} {L : List (Nat × Nat × World)} {fuel : Nat} {listed : Array Bool} {a : Act} {w : World} {o : Oper} {K : Act -> World -> Prop}
  (ho : ops[i]? = some o) (ha : act i = true) (hok : actOk ops F i m (bare L) = true) (hinv : Inv w0 L w) (hm : ¬ m < 2)
  (h : if Region.wanted o (yielded ops a.tmps) = true then o.wp P a w (fun a' w' => obl m w0 w w' /\ K a' w') NoQ else obl m w0 w w /\ K (a.put o.dst undef) w)
  (next : ∀ a' w', Inv w0 (L.map fun l => (l.1, actNext m l.2.1, l.2.2)) w' -> K a' w' ->
   wpAnyN P .any ops (NormQ Q) act (needN ops F (L.map fun l => (l.1, actNext m l.2.1, l.2.2))) fuel (listed.setIfInBounds i true) a' w') :
  wpOp P ops (NormQ Q) i (fun a' w' => (if act i = true then needN ops F L i w' else w' = w) /\ wpAnyN P .any ops (NormQ Q) act (needN ops F L) fuel (listed.setIfInBounds i true) a' w') a w := by
 have same : ∀ (fuel : Nat) (listed : Array Bool) (a : Act) (w : World), wpAnyN P .any ops (NormQ Q) act (needN ops F (L.map fun l => (l.1, actNext m l.2.1, l.2.2))) fuel listed a w -> wpAnyN P .any ops (NormQ Q) act (needN ops F L) fuel listed a w := by
  have e : needN ops F (L.map fun l => (l.1, actNext m l.2.1, l.2.2)) = needN ops F L := by
   funext j w'
   refine propext ⟨fun h l hl hn => h (l.1, actNext m l.2.1, l.2.2) (List.mem_map.2 ⟨l, hl, rfl⟩) hn, fun h l hl hn => ?_⟩
   obtain ⟨q, hq, rfl⟩ := List.mem_map.1 hl
   exact h q hq hn
  rw [e]
  exact fun _ _ _ _ h => h
 have step : ∀ a' w', obl m w0 w w' /\ K a' w' -> (if act i = true then needN ops F L i w' else w' = w) /\ wpAnyN P .any ops (NormQ Q) act (needN ops F L) fuel (listed.setIfInBounds i true) a' w' := fun a' w' h' => by
  obtain ⟨h1, h2⟩ := act_need hok hinv (by omega) h'.1
  rw [if_pos ha]
  exact ⟨h1, same _ _ _ _ (next a' w' h2 h'.2)⟩
 unfold wpOp
 simp only [ho]
 split at h
 ·rw [if_pos (by assumption)]
  exact .inl (Oper.wp_mono step (wp_noQ h))
 ·rename_i hnw
  rw [if_neg hnw]
  have h2 := step _ _ h
  simpa using h2
theorem tree_sound {F : Nat} {act : Nat -> Bool} {Q : Act -> World -> Prop} {w0 : World} (hs : Region.noSelect ops = true) :
  ∀ (t : Tr) (n : Nat) (listed : Array Bool) (L : List (Nat × Nat × World)) (st : Bool) (a : Act) (w : World), Closed .any ops listed -> treeOk P ops F act t listed (bare L) st = true -> t.lenOk n = true ->
   Inv w0 L w -> (st = false -> w = w0) -> wpTree P ops Q w0 t a w -> wpAnyN P .any ops (NormQ Q) act (needN ops F L) n listed a w
 | .lin segs, n, listed, L, st, a, w, hcl, hok, hlen, hinv, hst, h => by
  unfold Tr.lenOk at hlen
  rw [<- beq_iff_eq.1 hlen]
  exact flow_sound hs (flat segs) listed L st a w hcl hok hinv hst h
 | .two i m s j k t, 0, listed, L, st, a, w, hcl, hok, hlen, hinv, hst, h => by cases hlen
 | .two i m s j k t, n + 1, listed, L, st, a, w, hcl, hok, hlen, hinv, hst, h => by
  unfold Tr.lenOk at hlen
  rw [Bool.and_eq_true] at hlen
  unfold treeOk at hok
  simp only [Bool.and_eq_true, beq_iff_eq, decide_eq_true_eq] at hok
  obtain ⟨⟨hr, ⟨⟨⟨hoi, hm⟩, hai⟩, hacti⟩, hti⟩, ⟨⟨⟨hoj, hk⟩, haj⟩, hactj⟩, htj⟩ := hok
  obtain ⟨h1, h2⟩ := h
  obtain ⟨oi, hoi⟩ := Option.isSome_iff_exists.1 hoi
  obtain ⟨oj, hoj⟩ := Option.isSome_iff_exists.1 hoj
  have hir : i ∈ Region.ready .any ops listed := by rw [hr]; simp
  have hjr : j ∈ Region.ready .any ops listed := by rw [hr]; simp
  refine ⟨fun h0 => ?_, fun q hq => ?_⟩
  ·rw [hr] at h0; cases h0
  ·rw [hr] at hq
   simp only [List.mem_cons, List.not_mem_nil, or_false] at hq
   rcases hq with rfl | rfl
   ·unfold stepA at h1
    simp only [hoi] at h1
    exact act_stepK hoi hai hacti hinv (by omega) h1 fun a' w' hi hf => tree_sound hs s n _ _ true a' w' (hcl.set hir) (by rw [bare_act]; exact hti) hlen.1 hi (fun h => by cases h) hf
   ·unfold stepA at h2
    simp only [hoj] at h2
    exact act_stepK hoj haj hactj hinv (by omega) h2 fun a' w' hi hf => tree_sound hs t n _ _ true a' w' (hcl.set hjr) (by rw [bare_act]; exact htj) hlen.2 hi (fun h => by cases h) hf
def preT (P : Program) (ops : Array Oper) (F : Nat) (act : Nat -> Bool) (t : Tr) : List (Nat × Nat) -> Array Bool -> List (Nat × Nat) -> Bool
 | [], listed, L => treeOk P ops F act t listed L false
 | (i, m) :: rest, listed, L => match ops[i]? with
  | none => false
  | some o => (Region.ready .any ops listed).contains i && (match m with
   | 0 => opKind P o == 0 && Region.free .any ops listed i && !act i && preT P ops F act t rest (listed.setIfInBounds i true) L
   | 1 => opKind P o == 1 && Region.free .any ops listed i && !act i && preT P ops F act t rest (listed.setIfInBounds i true) ((i, 2) :: L)
   | _ => false)
theorem preT_sound {F : Nat} {act : Nat -> Bool} {Q : Act -> World -> Prop} {w0 : World} (hs : Region.noSelect ops = true) {t : Tr} {n : Nat} (hn : t.lenOk n = true) :
  ∀ (c : List (Nat × Nat)) (listed : Array Bool) (L : List (Nat × Nat × World)) (a : Act), Closed .any ops listed -> preT P ops F act t c listed (bare L) = true ->
   Inv w0 L w0 -> wpFlow P ops (fun a w => w = w0 /\ wpTree P ops Q w0 t a w) w0 c a w0 -> wpAnyN P .any ops (NormQ Q) act (needN ops F L) (c.length + n) listed a w0
 | [], listed, L, a, hcl, hok, hinv, h => by
  rw [List.length_nil, Nat.zero_add]
  exact tree_sound hs t n listed L false a w0 hcl hok hn hinv (fun _ => rfl) h.2
 | (i, m) :: rest, listed, L, a, hcl, hok, hinv, h => by
  unfold preT at hok
  unfold wpFlow at h
  split at hok
  ·cases hok
  rename_i o ho
  rw [ho] at h
  dsimp only at h
  rw [Bool.and_eq_true] at hok
  obtain ⟨hr, hok⟩ := hok
  have hr : i ∈ Region.ready .any ops listed := by simpa using hr
  have hQ : ∀ (v : Value) (c : List PanicEntry) (a : Act) (w : World), NormQ Q (.panic c) (a.put o.dst v) w -> NormQ Q (.panic c) a w := fun _ _ _ _ h => h
  rw [List.length_cons, Nat.add_right_comm]
  split at hok
  ·simp only [Bool.and_eq_true, Bool.not_eq_true', beq_iff_eq] at hok
   obtain ⟨⟨⟨_, hf⟩, ha⟩, hrest⟩ := hok
   rw [if_pos (by decide)] at h
   obtain ⟨v, hy, h⟩ := h
   exact wpAnyN_first (N' := needN ops F L) (F := F) ho (Region.noSelect_spec hs) (hQ v) ha (fun _ _ h => h) _ listed a w0 hcl (fun _ _ _ _ _ _ _ => trivial) (Region.free_spec ho hf) hr hy trivial
    (preT_sound hs hn rest _ L _ (hcl.set hr) hrest hinv h)
  ·simp only [Bool.and_eq_true, Bool.not_eq_true', beq_iff_eq] at hok
   obtain ⟨⟨⟨_, hf⟩, ha⟩, hrest⟩ := hok
   rw [if_pos (by decide)] at h
   obtain ⟨v, hy, h⟩ := h
   refine wpAnyN_first (N' := needN ops F ((i, 2, w0) :: L)) (S := fun w' => Below w0.heap.size w0 w') (F := F) ho (Region.noSelect_spec hs) (hQ v) ha (fun j w' h l hl => h l (List.mem_cons_of_mem _ hl)) _ listed a w0 hcl
    (fun j w' _ _ _ hw h => h _ List.mem_cons_self hw) (Region.free_spec ho hf) hr hy (Below.refl _ _) (preT_sound hs hn rest _ _ _ (hcl.set hr) hrest ?_ h)
   intro l hl
   rcases List.mem_cons.1 hl with rfl | hl
   ·exact ⟨fun _ => rfl, fun _ => Below.refl _ _⟩
   ·exact hinv l hl
  ·cases hok
def wpTrees (P : Program) (ops : Array Oper) (Q : Act -> World -> Prop) (w0 : World) : Tr -> Act -> World -> Prop
 | .lin segs, a, w => wpSegs P ops (fun a' w' => shapesB ops (flat segs) a' = true /\ Q a' w') w0 segs a w
 | .two i m s j n t, a, w => wpList P ops (NormQ fun a' w' => obl m w0 w w' /\ wpTrees P ops Q w0 s a' w') (segL ops [(i, m)]) a w /\
   wpList P ops (NormQ fun a' w' => obl n w0 w w' /\ wpTrees P ops Q w0 t a' w') (segL ops [(j, n)]) a w
theorem step_of {w0 : World} {i m : Nat} {K : Act -> World -> Prop} {a : Act} {w : World} (hi : (ops[i]?).isSome = true) (h : wpList P ops (NormQ fun a' w' => obl m w0 w w' /\ K a' w') (segL ops [(i, m)]) a w) : stepA P ops w0 i m K a w := by
 obtain ⟨o, ho⟩ := Option.isSome_iff_exists.1 hi
 unfold stepA
 simp only [ho]
 rw [segL_cons ho] at h
 have h2 := wpList_norm h
 split at h2
 ·rw [if_pos (by assumption)]
  exact Oper.wp_mono (fun a1 w1 h1 => h1) (wp_normQ h2)
 ·rename_i hn
  rw [if_neg hn]
  exact h2
theorem trees_sound {Q : Act -> World -> Prop} {w0 : World} {F : Nat} {act : Nat -> Bool} : ∀ (t : Tr) (listed : Array Bool) (L : List (Nat × Nat)) (st : Bool) (a : Act) (w : World), leafOk P ops t = true -> treeOk P ops F act t listed L st = true -> wpTrees P ops Q w0 t a w -> wpTree P ops Q w0 t a w
 | .lin segs, _, _, _, a, w, hl, _, h => by
  unfold leafOk at hl
  simp only [Bool.and_eq_true] at hl
  exact segs_flow (P := P) (Q := Q) (G := segL ops (flat segs)) segs a w hl.1.1 hl.1.2 hl.2 (fun o ho => ho) h
 | .two i m s j n t, listed, L, st, a, w, hl, hok, h => by
  unfold leafOk at hl
  rw [Bool.and_eq_true] at hl
  unfold treeOk at hok
  simp only [Bool.and_eq_true, beq_iff_eq, decide_eq_true_eq] at hok
  obtain ⟨⟨hr, ⟨⟨⟨hoi, hm⟩, hai⟩, hacti⟩, hti⟩, ⟨⟨⟨hoj, hk⟩, haj⟩, hactj⟩, htj⟩ := hok
  have mono : ∀ {i m : Nat} {K K' : Act -> World -> Prop}, (∀ a w, K a w -> K' a w) -> stepA P ops w0 i m K a w -> stepA P ops w0 i m K' a w := by
   intro i m K K' hK h
   unfold stepA at *
   split at h
   ·exact h
   ·rename_i o ho
    split at h
    ·rw [if_pos (by assumption)]
     exact Oper.wp_mono (fun a' w' h' => ⟨h'.1, hK _ _ h'.2⟩) h
    ·rename_i hn
     rw [if_neg hn]
     exact ⟨h.1, hK _ _ h.2⟩
  exact ⟨mono (fun a w h => trees_sound s _ _ _ a w hl.1 hti h) (step_of hoi h.1), mono (fun a w h => trees_sound t _ _ _ a w hl.2 htj h) (step_of hoj h.2)⟩
def treeReg (P : Program) (ops : Array Oper) (pre : List (Nat × Nat)) (t : Tr) : Bool :=
 P.follows .mixedOrders && Region.noSelect ops && (pre.all fun p => decide (p.2 < 2)) && (segL ops pre).all (fun o => !shaped o) && kindsOk P ops pre && stableB ops (segL ops pre) && leafOk P ops t && decide (pre.length <= ops.size) && t.lenOk (ops.size - pre.length) &&
  preT P ops ops.size t.acts t pre (Array.replicate ops.size false) []
theorem region_tree (pre : List (Nat × Nat)) (t : Tr) {id : Nat} {l : List Oper} {Q : Exit -> Act -> World -> Prop} {a : Act} {w : World} (hok : treeReg P l.toArray pre t = true)
  (h : wpList P l.toArray (NormQ fun a' w' => wpTrees P l.toArray (fun a' w' => Q .normal a' w') w.drew t a' w') (segL l.toArray pre) a w.drew) :
  (Code.region id l.toArray true).wp P Q a w := by
 generalize l.toArray = ops at *
 unfold treeReg at hok
 simp only [Bool.and_eq_true, decide_eq_true_eq] at hok
 obtain ⟨⟨⟨⟨⟨⟨⟨⟨⟨hm, hs⟩, hpure⟩, hsh⟩, hk⟩, hst⟩, hleaf⟩, hsz⟩, hlen⟩, hf⟩ := hok
 have hend : ∀ (c : List (Nat × Nat)) (listed : Array Bool) (L : List (Nat × Nat)), preT P ops ops.size t.acts t c listed L = true -> ∃ listed' L', treeOk P ops ops.size t.acts t listed' L' false = true := by
  intro c
  induction c with
  | nil => exact fun listed L h => ⟨listed, L, h⟩
  | cons p c ih =>
   intro listed L h
   obtain ⟨i, m⟩ := p
   unfold preT at h
   split at h
   ·cases h
   ·rw [Bool.and_eq_true] at h
    have h2 := h.2
    split at h2
    ·simp only [Bool.and_eq_true] at h2; exact ih _ _ h2.2
    ·simp only [Bool.and_eq_true] at h2; exact ih _ _ h2.2
    ·cases h2
 obtain ⟨li, Li, htree⟩ := hend _ _ _ hf
 have hflow := seg_flow (P := P) (Q := fun a' w' => wpTree P ops (fun a' w' => Q .normal a' w') w.drew t a' w') (w0 := w.drew) (ws := w.drew) (c' := []) (D := []) (k := 4) (G := fun o => o ∈ segL ops pre)
  (R := fun a' w' => wpTrees P ops (fun a' w' => Q .normal a' w') w.drew t a' w')
  (fun _ _ _ => trivial) (fun a w _ => ⟨a, fun o ho => by
   have hu := List.all_eq_true.1 hsh o ho
   simp only [Bool.not_eq_true'] at hu
   rw [shape_un hu, Bool.or_true], fun _ _ => rfl⟩)
  (fun a w hR => trees_sound t li Li false a w hleaf htree hR)
  pre a w.drew hk (by rw [List.append_nil]; exact hst) (.inl rfl) (fun _ => by
   unfold segLast
   rw [List.all_eq_true] at hpure ⊢
   intro p hp
   rw [hpure p hp, Bool.true_or]) (fun o ho => ho) (fun h => absurd rfl h) h
 rw [List.append_nil] at hflow
 have hN := preT_sound (P := P) (Q := fun a' w' => Q .normal a' w') (w0 := w.drew) hs hlen pre (Array.replicate ops.size false) [] a closed_none hf (fun _ h => by cases h) (pre_world _ _ _ hpure rfl hflow)
 rw [show pre.length + (ops.size - pre.length) = ops.size by omega] at hN
 refine Code.wp_mono (Q := NormQ fun a' w' => Q .normal a' w') (fun e a w he => ?_) (wp_region_any hm (wpAny_of_N _ _ _ _ hN))
 cases e <;> first | exact he | exact (he : False).elim
end
end Go.Proofs.YtilgbekffbphgaaGreat
