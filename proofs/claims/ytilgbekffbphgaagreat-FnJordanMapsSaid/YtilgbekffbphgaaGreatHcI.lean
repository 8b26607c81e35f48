import Derived.Test.YtilgbekffbphgaaGreatJal
import Derived.Test.YtilgbekffbphgaaGreatHcG
namespace Go.Proofs.YtilgbekffbphgaaGreat
open Go.RowKit
def jdgS (p : Int) (st : List Int) (X Y : Her) : Nat -> List Int
 | 0 => []
 | k + 1 => jdgS p st X Y k ++ [(halfH p st X Y k k).getD 0 0]
def jupS (p : Int) (st : List Int) (X Y : Her) : Nat -> List (List Int)
 | 0 => []
 | k + 1 => jupS p st X Y k ++ [halfH p st X Y ((k + 1) % 3) ((k + 2) % 3)]
theorem jordanH_eq {p : Int} {st : List Int} {X Y : Her} : jordanH p st X Y = ⟨jdgS p st X Y 3, jupS p st X Y 3⟩ := rfl
theorem jdgS_len {p : Int} {st : List Int} {X Y : Her} : ∀ k, (jdgS p st X Y k).length = k
 | 0 => rfl
 | k + 1 => by unfold jdgS; rw [List.length_append, jdgS_len k]; rfl
theorem jupS_len {p : Int} {st : List Int} {X Y : Her} : ∀ k, (jupS p st X Y k).length = k
 | 0 => rfl
 | k + 1 => by unfold jupS; rw [List.length_append, jupS_len k]; rfl
set_option maxHeartbeats 4000000 in
set_option maxRecDepth 100000 in
theorem jordan_c {p : Int} {s x y : Value} {st : List Int} {X Y : Her} {w : World} (hd : Dok p st) (hs : El w s st) (hx : Hv w x X) (hX : isH p (sz st.length) X = true) (hy : Hv w y Y) (hY : isH p (sz st.length) Y = true) :
  Calls Tryz.prog 71 #[.agg #[.int .i64 p, s], x, y] w fun e w' => ∃ v, e = .returned v /\ FrH w' w.heap.size v (jordanH p st X Y) /\ Below w.heap.size w w' := by
 have hp1 := hd.hp.lo
 have hp2 := hd.hp.hi
 have hsz := sz_le hd
 have hl3 := hd.hl
 obtain ⟨a0, c0, rfl, _⟩ := id hs.op
 obtain ⟨dv1, uv1, rfl, hd1_, hu1_⟩ := id hx; obtain ⟨a1, c1, rfl, _⟩ := id hd1_.op; obtain ⟨b1, k1, rfl, _⟩ := id hu1_; clear hd1_ hu1_
 obtain ⟨dv2, uv2, rfl, hd2_, hu2_⟩ := id hy; obtain ⟨a2, c2, rfl, _⟩ := id hd2_.op; obtain ⟨b2, k2, rfl, _⟩ := id hu2_; clear hd2_ hu2_
 rw [jordanH_eq]
 go_enter Tryz.func71, Tryz.ntmps71
 have hb0 : Below w.heap.size w ((((w.alloc (.cells #[.int .i64 p, .slice a0 st.length c0] 26)).alloc (.cells #[.slice a1 X.dg.length c1, .slice b1 X.up.length k1] 29)).alloc (.cells #[.slice a2 Y.dg.length c2, .slice b2 Y.up.length k2] 29)).alloc (.cells #[.slice none 0 0, .slice none 0 0] 29)) := bwT
 have hs := hs.below hb0; have hx := hx.below hb0; have hy := hy.below hb0
 have d0 : ((((w.alloc (.cells #[.int .i64 p, .slice a0 st.length c0] 26)).alloc (.cells #[.slice a1 X.dg.length c1, .slice b1 X.up.length k1] 29)).alloc (.cells #[.slice a2 Y.dg.length c2, .slice b2 Y.up.length k2] 29)).alloc (.cells #[.slice none 0 0, .slice none 0 0] 29)).cell? ⟨w.heap.size, 0, none⟩ = some (.int .i64 p) := by simp [go_sem]
 have d1 : ((((w.alloc (.cells #[.int .i64 p, .slice a0 st.length c0] 26)).alloc (.cells #[.slice a1 X.dg.length c1, .slice b1 X.up.length k1] 29)).alloc (.cells #[.slice a2 Y.dg.length c2, .slice b2 Y.up.length k2] 29)).alloc (.cells #[.slice none 0 0, .slice none 0 0] 29)).cell? ⟨w.heap.size, 1, none⟩ = some (.slice a0 st.length c0) := by simp [go_sem]
 have e0 : ((((w.alloc (.cells #[.int .i64 p, .slice a0 st.length c0] 26)).alloc (.cells #[.slice a1 X.dg.length c1, .slice b1 X.up.length k1] 29)).alloc (.cells #[.slice a2 Y.dg.length c2, .slice b2 Y.up.length k2] 29)).alloc (.cells #[.slice none 0 0, .slice none 0 0] 29)).cell? ⟨w.heap.size + 1, 0, none⟩ = some (.slice a1 X.dg.length c1) := by simp [go_sem]
 have e1 : ((((w.alloc (.cells #[.int .i64 p, .slice a0 st.length c0] 26)).alloc (.cells #[.slice a1 X.dg.length c1, .slice b1 X.up.length k1] 29)).alloc (.cells #[.slice a2 Y.dg.length c2, .slice b2 Y.up.length k2] 29)).alloc (.cells #[.slice none 0 0, .slice none 0 0] 29)).cell? ⟨w.heap.size + 1, 1, none⟩ = some (.slice b1 X.up.length k1) := by simp [go_sem]
 have f0 : ((((w.alloc (.cells #[.int .i64 p, .slice a0 st.length c0] 26)).alloc (.cells #[.slice a1 X.dg.length c1, .slice b1 X.up.length k1] 29)).alloc (.cells #[.slice a2 Y.dg.length c2, .slice b2 Y.up.length k2] 29)).alloc (.cells #[.slice none 0 0, .slice none 0 0] 29)).cell? ⟨w.heap.size + 1 + 1, 0, none⟩ = some (.slice a2 Y.dg.length c2) := by simp [go_sem]
 have f1 : ((((w.alloc (.cells #[.int .i64 p, .slice a0 st.length c0] 26)).alloc (.cells #[.slice a1 X.dg.length c1, .slice b1 X.up.length k1] 29)).alloc (.cells #[.slice a2 Y.dg.length c2, .slice b2 Y.up.length k2] 29)).alloc (.cells #[.slice none 0 0, .slice none 0 0] 29)).cell? ⟨w.heap.size + 1 + 1, 1, none⟩ = some (.slice b2 Y.up.length k2) := by simp [go_sem]
 have r0 : ((((w.alloc (.cells #[.int .i64 p, .slice a0 st.length c0] 26)).alloc (.cells #[.slice a1 X.dg.length c1, .slice b1 X.up.length k1] 29)).alloc (.cells #[.slice a2 Y.dg.length c2, .slice b2 Y.up.length k2] 29)).alloc (.cells #[.slice none 0 0, .slice none 0 0] 29)).cell? ⟨w.heap.size + 1 + 1 + 1, 0, none⟩ = some (.slice none 0 0) := by simp [go_sem]
 have r1 : ((((w.alloc (.cells #[.int .i64 p, .slice a0 st.length c0] 26)).alloc (.cells #[.slice a1 X.dg.length c1, .slice b1 X.up.length k1] 29)).alloc (.cells #[.slice a2 Y.dg.length c2, .slice b2 Y.up.length k2] 29)).alloc (.cells #[.slice none 0 0, .slice none 0 0] 29)).cell? ⟨w.heap.size + 1 + 1 + 1, 1, none⟩ = some (.slice none 0 0) := by simp [go_sem]
 have hr : Bx ((((w.alloc (.cells #[.int .i64 p, .slice a0 st.length c0] 26)).alloc (.cells #[.slice a1 X.dg.length c1, .slice b1 X.up.length k1] 29)).alloc (.cells #[.slice a2 Y.dg.length c2, .slice b2 Y.up.length k2] 29)).alloc (.cells #[.slice none 0 0, .slice none 0 0] 29)) (w.heap.size + 1 + 1 + 1) (.slice none 0 0) (.slice none 0 0) := by rw [show w.heap.size + 1 + 1 + 1 = (((w.alloc (.cells #[.int .i64 p, .slice a0 st.length c0] 26)).alloc (.cells #[.slice a1 X.dg.length c1, .slice b1 X.up.length k1] 29)).alloc (.cells #[.slice a2 Y.dg.length c2, .slice b2 Y.up.length k2] 29)).heap.size by simp]; exact heap_alloc_new _ _
 go_wp2_with fail
 refine (dfield_c).mono ?_; rintro e w1 ⟨rfl, hb1⟩
 have hs := hs.below hb1; have hx := hx.below hb1; have hy := hy.below hb1; have d0 := kept hb1 d0; have d1 := kept hb1 d1; have e0 := kept hb1 e0; have e1 := kept hb1 e1; have f0 := kept hb1 f0; have f1 := kept hb1 f1; have hr := hr.below hb1
 have hb2 : Below w1.heap.size w1 (w1.alloc (.cells #[.int .i64 p] 52)) := bwT
 have hs := hs.below hb2; have hx := hx.below hb2; have hy := hy.below hb2; have d0 := kept hb2 d0; have d1 := kept hb2 d1; have e0 := kept hb2 e0; have e1 := kept hb2 e1; have f0 := kept hb2 f0; have f1 := kept hb2 f1; have hr := hr.below hb2
 have g0 : (w1.alloc (.cells #[.int .i64 p] 52)).cell? ⟨w1.heap.size, 0, none⟩ = some (.int .i64 p) := by simp [go_sem]
 have hsz1 : w.heap.size + 1 + 1 + 1 + 1 <= w1.heap.size := by have := hb1.size; simpa using this
 go_wp2
 have hs_ := hs
 have hx_ := hx
 have hy_ := hy
 have d0_ := d0
 have d1_ := d1
 have e0_ := e0
 have e1_ := e1
 have f0_ := f0
 have f1_ := f1
 have hr_ := hr
 have g0_ := g0
 have HN := Lib.hid (show (w1.alloc (.cells #[.int .i64 p] 52)).heap.size <= (w1.heap.size + 1) + 1 by simp)
 have HM := Lib.hid (show (w1.alloc (.cells #[.int .i64 p] 52)).heap.size <= (w1.heap.size + 1) by simp)
 go_loopw [15] (fun i wr => ∃ (k : Nat) (dv uv : Value) (us : List Value), k <= 3 /\ i = .int .i64 k /\ Out wr (w1.heap.size + 1) dv uv us (jdgS p st X Y k) (jupS p st X Y k) /\ Below (w1.alloc (.cells #[.int .i64 p] 52)).heap.size (w1.alloc (.cells #[.int .i64 p] 52)) wr) (fun i _ => 3 - (intOf i).toNat)
 case atStart => exact ⟨0, _, _, [], by omega, rfl, Out.start (by unfold Bx; rw [show (w1.heap.size + 1) = (w1.alloc (.cells #[.int .i64 p] 52)).heap.size by simp]; exact heap_alloc_new _ _), bwT⟩
 case round =>
  obtain ⟨k, dv, uv, us, hk, rfl, ho, hb⟩ := hrel
  have HD := Lib.hid (jdgS_len (p := p) (st := st) (X := X) (Y := Y) k)
  have HU := Lib.hid (ho.ul.trans (jupS_len k))
  rcases (show k = 0 \/ k = 1 \/ k = 2 \/ k = 3 by omega) with rfl | rfl | rfl | rfl
  ·skip
   have hs := hs_.below hb
   have hx := hx_.below hb
   have hy := hy_.below hb
   have d0 := kept hb d0_
   have d1 := kept hb d1_
   have e0 := kept hb e0_
   have e1 := kept hb e1_
   have f0 := kept hb f0_
   have f1 := kept hb f1_
   have hr := hr_.below hb
   have g0 := kept hb g0_
   have bc0 := ho.bx.c0
   have x1 := halfH_ev (p := p) (st := st) (X := X) (Y := Y) (i := 0) (j := 0) (by omega) hX hY (by omega) (by omega)
   have L1 := Lib.hid x1.1
   obtain ⟨q, hq⟩ : ∃ q, q = (halfH p st X Y 0 0).getD 0 0 := ⟨_, rfl⟩
   have HQ := Lib.hid hq; clear hq x1
   go_wp2
   go_wp2_with fail
   refine region_flow [(false, [(0, 0), (1, 1), (2, 0), (3, 0), (4, 0), (5, 5)]), (false, [(6, 0), (7, 1), (8, 5)]), (false, [(9, 4), (10, 0), (11, 4)])] (by kernel_rfl) ?_
   refine norm_K fun K hK => ?_
   change wpList _ _ _ [_, _, _, _, _, _] _ _
   have hb21 : Below wr.heap.size wr wr.drew := bwT
   have hs := hs.below hb21; have hx := hx.below hb21; have hy := hy.below hb21; have hr := hr.below hb21; have d0 := kept hb21 d0; have d1 := kept hb21 d1; have e0 := kept hb21 e0; have e1 := kept hb21 e1; have f0 := kept hb21 f0; have f1 := kept hb21 f1; have g0 := kept hb21 g0; have ho := ho.below hb21; have bc0 := kept hb21 bc0
   go_wp2_with fail
   refine (half_c (ii := 0) (jj := 0) hd hs hx hX hy hY (by omega) (by omega) g0 d0 d1 e0 e1 f0 f1).mono ?_; rintro e w22 ⟨v1, rfl, ⟨g1, cap1, rfl, h1⟩, hb22⟩
   have hs := hs.below hb22; have hx := hx.below hb22; have hy := hy.below hb22; have hr := hr.below hb22; have d0 := kept hb22 d0; have d1 := kept hb22 d1; have e0 := kept hb22 e0; have e1 := kept hb22 e1; have f0 := kept hb22 f0; have f1 := kept hb22 f1; have g0 := kept hb22 g0; have ho := ho.below hb22; have bc0 := kept hb22 bc0
   go_wp2_with fail
   have hz0 : Below wr.drew.heap.size wr.drew w22 := bwT
   first | (refine hK _ _ ⟨hz0, ?_⟩; clear hK K) | refine ⟨hz0, ?_⟩
   clear hz0
   refine norm_K fun K hK => ?_
   change wpList _ _ _ [_, _, _] _ _
   rw [L1.out] at h1 ⊢
   have hc := h1.hold (i := 0) (by omega)
   rw [<- HQ.out] at hc
   have hoW := ho
   go_wp2_with fail
   have hb23 : Below w22.heap.size w22 (w22.alloc (.cells #[.int .i64 q] 2)) := bwT
   have hs := hs.below hb23; have hx := hx.below hb23; have hy := hy.below hb23; have hr := hr.below hb23; have d0 := kept hb23 d0; have d1 := kept hb23 d1; have e0 := kept hb23 e0; have e1 := kept hb23 e1; have f0 := kept hb23 f0; have f1 := kept hb23 f1; have g0 := kept hb23 g0; have ho := ho.below hb23; have bc0 := kept hb23 bc0
   have hl : OwnI (w22.alloc (.cells #[.int .i64 q] 2)) w22.heap.size w22.heap.size [q].length [q].length [q] := OwnI.lit (Nat.le_refl _) [q] (by simp)
   go_wp2_with fail
   have hz1 : Below wr.drew.heap.size wr.drew (w22.alloc (.cells #[.int .i64 q] 2)) := bwT
   first | (refine hK _ _ ⟨hz1, ?_⟩; clear hK K) | refine ⟨hz1, ?_⟩
   clear hz1
   refine norm_K fun K hK => ?_
   change wpList _ _ _ [_, _, _] _ _
   go_wp2_with (at_builtin; refine appn_one rfl _ _ rfl w22 ((w1.heap.size + 1) + 1) _ rfl dv (jdgS p st X Y 0) rfl q 1 rfl hoW.od (by have := hoW.bx.lt; simp; omega) (by have := HD.out; omega) ?_; intro g' cap' w' hown' hgb' hg' hge; have bx' := hoW.bx.bl hgb' (Nat.lt_succ_self _); have bc0 := bx'.c0; have bf0 := bx'.f0)
   first | (refine hK _ _ ⟨rfl, ?_⟩; clear hK K) | refine ⟨rfl, ?_⟩
   have hba : Below (w1.alloc (.cells #[.int .i64 p] 52)).heap.size (w1.alloc (.cells #[.int .i64 p] 52)) (w'.setCell ⟨(w1.heap.size + 1), 0, none⟩ (.slice (some ⟨g', 0, none⟩) ((jdgS p st X Y 0).length + 1) cap')) := bwS ((show Below (w1.alloc (.cells #[.int .i64 p] 52)).heap.size (w1.alloc (.cells #[.int .i64 p] 52)) w22 from bwC hb bwT).trans (hgb'.mono HN.out)) HM.out _
   have ho := hoW.num (nv := .slice (some ⟨g', 0, none⟩) ((jdgS p st X Y 0).length + 1) cap') rfl hown' hgb' hg' hge
   clear bc0 bf0 bx' hown'
   obtain ⟨wa, hwa⟩ : ∃ x, x = w'.setCell ⟨(w1.heap.size + 1), 0, none⟩ (.slice (some ⟨g', 0, none⟩) ((jdgS p st X Y 0).length + 1) cap') := ⟨_, rfl⟩
   rw [<- hwa] at hba ho ⊢; clear hwa
   have hs := hs_.below hba
   have hx := hx_.below hba
   have hy := hy_.below hba
   have d0 := kept hba d0_
   have d1 := kept hba d1_
   have e0 := kept hba e0_
   have e1 := kept hba e1_
   have f0 := kept hba f0_
   have f1 := kept hba f1_
   have hr := hr_.below hba
   have g0 := kept hba g0_
   have bc1 := ho.bx.c1
   have hoA := ho
   have hoF := ho.below (w' := wa.drew) bwT
   go_wp2_with fail
   refine region_flow [(false, [(0, 0), (1, 1), (2, 0), (3, 0), (4, 0), (5, 0), (6, 0), (7, 0), (8, 0), (9, 5)]), (false, [(10, 5)]), (false, [(11, 4), (12, 0), (13, 4)])] (by kernel_rfl) ?_
   refine norm_K fun K hK => ?_
   change wpList _ _ _ [_, _, _, _, _, _, _, _, _, _] _ _
   have hb21 : Below wa.heap.size wa wa.drew := bwT
   have hs := hs.below hb21; have hx := hx.below hb21; have hy := hy.below hb21; have hr := hr.below hb21; have d0 := kept hb21 d0; have d1 := kept hb21 d1; have e0 := kept hb21 e0; have e1 := kept hb21 e1; have f0 := kept hb21 f0; have f1 := kept hb21 f1; have g0 := kept hb21 g0; have ho := ho.below hb21; have bc1 := kept hb21 bc1
   go_wp2_with fail
   refine (half_c (ii := 1) (jj := 2) hd hs hx hX hy hY (by omega) (by omega) g0 d0 d1 e0 e1 f0 f1).mono ?_; rintro e w22 ⟨v2, rfl, hv2, hb22⟩
   have hs := hs.below hb22; have hx := hx.below hb22; have hy := hy.below hb22; have hr := hr.below hb22; have d0 := kept hb22 d0; have d1 := kept hb22 d1; have e0 := kept hb22 e0; have e1 := kept hb22 e1; have f0 := kept hb22 f0; have f1 := kept hb22 f1; have g0 := kept hb22 g0; have ho := ho.below hb22; have bc1 := kept hb22 bc1
   go_wp2_with fail
   have hz0 : Below wa.drew.heap.size wa.drew w22 := bwT
   first | (refine hK _ _ ⟨hz0, ?_⟩; clear hK K) | refine ⟨hz0, ?_⟩
   clear hz0
   refine norm_K fun K hK => ?_
   change wpList _ _ _ [_] _ _
   have hf := hoF.fresh hv2
   obtain ⟨g2, cap2, rfl, hv2o⟩ := id hv2
   have hoW := ho
   have hb23 : Below w22.heap.size w22 (w22.alloc (.cells #[.slice (some ⟨g2, 0, none⟩) (halfH p st X Y 1 2).length cap2] 24)) := bwT
   have hs := hs.below hb23; have hx := hx.below hb23; have hy := hy.below hb23; have hr := hr.below hb23; have d0 := kept hb23 d0; have d1 := kept hb23 d1; have e0 := kept hb23 e0; have e1 := kept hb23 e1; have f0 := kept hb23 f0; have f1 := kept hb23 f1; have g0 := kept hb23 g0; have ho := ho.below hb23; have bc1 := kept hb23 bc1
   have x0 : (w22.alloc (.cells #[.slice (some ⟨g2, 0, none⟩) (halfH p st X Y 1 2).length cap2] 24)).cell? ⟨w22.heap.size, 0, none⟩ = some (.slice (some ⟨g2, 0, none⟩) (halfH p st X Y 1 2).length cap2) := by simp [go_sem]
   go_wp2_with fail
   have hz1 : Below wa.drew.heap.size wa.drew (w22.alloc (.cells #[.slice (some ⟨g2, 0, none⟩) (halfH p st X Y 1 2).length cap2] 24)) := bwT
   first | (refine hK _ _ ⟨hz1, ?_⟩; clear hK K) | refine ⟨hz1, ?_⟩
   clear hz1
   refine norm_K fun K hK => ?_
   change wpList _ _ _ [_, _, _] _ _
   go_wp2_with (at_builtin; refine appr_one rfl _ _ rfl w22 ((w1.heap.size + 1) + 1) _ rfl uv us rfl (.slice (some ⟨g2, 0, none⟩) (halfH p st X Y 1 2).length cap2) 1 rfl rfl hoW.ou (by have := hoW.bx.lt; simp; omega) (by have := HU.out; omega) ?_; intro g3 cap3 w3 hown3 hgb3 hg3 hge3; have bx' := hoW.bx.bl hgb3 (Nat.lt_succ_self _); have bc1 := bx'.c1; have bf1 := bx'.f1)
   first | (refine hK _ _ ⟨rfl, ?_⟩; clear hK K) | refine ⟨rfl, ?_⟩
   have hbz : Below (w1.alloc (.cells #[.int .i64 p] 52)).heap.size (w1.alloc (.cells #[.int .i64 p] 52)) (w3.setCell ⟨(w1.heap.size + 1), 1, none⟩ (.slice (some ⟨g3, 0, none⟩) (us.length + 1) cap3)) := bwS ((show Below (w1.alloc (.cells #[.int .i64 p] 52)).heap.size (w1.alloc (.cells #[.int .i64 p] 52)) w22 from bwC hba bwT).trans (hgb3.mono HN.out)) HM.out _
   have hz := hoW.row (hv2.more (by simp; have := hoA.bx.lt; omega)) hf.1 hf.2 hown3 hgb3 hg3
   go_wp2_with fail
   go_roundw
   case rel => exact ⟨0 + 1, _, _, _, by omega, rfl, by rw [HQ.out] at hz; exact hz, hbz⟩
   case measure => simp [intOf]
  ·skip
   have hs := hs_.below hb
   have hx := hx_.below hb
   have hy := hy_.below hb
   have d0 := kept hb d0_
   have d1 := kept hb d1_
   have e0 := kept hb e0_
   have e1 := kept hb e1_
   have f0 := kept hb f0_
   have f1 := kept hb f1_
   have hr := hr_.below hb
   have g0 := kept hb g0_
   have bc0 := ho.bx.c0
   have x1 := halfH_ev (p := p) (st := st) (X := X) (Y := Y) (i := 1) (j := 1) (by omega) hX hY (by omega) (by omega)
   have L1 := Lib.hid x1.1
   obtain ⟨q, hq⟩ : ∃ q, q = (halfH p st X Y 1 1).getD 0 0 := ⟨_, rfl⟩
   have HQ := Lib.hid hq; clear hq x1
   go_wp2
   go_wp2_with fail
   refine region_flow [(false, [(0, 0), (1, 1), (2, 0), (3, 0), (4, 0), (5, 5)]), (false, [(6, 0), (7, 1), (8, 5)]), (false, [(9, 4), (10, 0), (11, 4)])] (by kernel_rfl) ?_
   refine norm_K fun K hK => ?_
   change wpList _ _ _ [_, _, _, _, _, _] _ _
   have hb21 : Below wr.heap.size wr wr.drew := bwT
   have hs := hs.below hb21; have hx := hx.below hb21; have hy := hy.below hb21; have hr := hr.below hb21; have d0 := kept hb21 d0; have d1 := kept hb21 d1; have e0 := kept hb21 e0; have e1 := kept hb21 e1; have f0 := kept hb21 f0; have f1 := kept hb21 f1; have g0 := kept hb21 g0; have ho := ho.below hb21; have bc0 := kept hb21 bc0
   go_wp2_with fail
   refine (half_c (ii := 1) (jj := 1) hd hs hx hX hy hY (by omega) (by omega) g0 d0 d1 e0 e1 f0 f1).mono ?_; rintro e w22 ⟨v1, rfl, ⟨g1, cap1, rfl, h1⟩, hb22⟩
   have hs := hs.below hb22; have hx := hx.below hb22; have hy := hy.below hb22; have hr := hr.below hb22; have d0 := kept hb22 d0; have d1 := kept hb22 d1; have e0 := kept hb22 e0; have e1 := kept hb22 e1; have f0 := kept hb22 f0; have f1 := kept hb22 f1; have g0 := kept hb22 g0; have ho := ho.below hb22; have bc0 := kept hb22 bc0
   go_wp2_with fail
   have hz0 : Below wr.drew.heap.size wr.drew w22 := bwT
   first | (refine hK _ _ ⟨hz0, ?_⟩; clear hK K) | refine ⟨hz0, ?_⟩
   clear hz0
   refine norm_K fun K hK => ?_
   change wpList _ _ _ [_, _, _] _ _
   rw [L1.out] at h1 ⊢
   have hc := h1.hold (i := 0) (by omega)
   rw [<- HQ.out] at hc
   have hoW := ho
   go_wp2_with fail
   have hb23 : Below w22.heap.size w22 (w22.alloc (.cells #[.int .i64 q] 2)) := bwT
   have hs := hs.below hb23; have hx := hx.below hb23; have hy := hy.below hb23; have hr := hr.below hb23; have d0 := kept hb23 d0; have d1 := kept hb23 d1; have e0 := kept hb23 e0; have e1 := kept hb23 e1; have f0 := kept hb23 f0; have f1 := kept hb23 f1; have g0 := kept hb23 g0; have ho := ho.below hb23; have bc0 := kept hb23 bc0
   have hl : OwnI (w22.alloc (.cells #[.int .i64 q] 2)) w22.heap.size w22.heap.size [q].length [q].length [q] := OwnI.lit (Nat.le_refl _) [q] (by simp)
   go_wp2_with fail
   have hz1 : Below wr.drew.heap.size wr.drew (w22.alloc (.cells #[.int .i64 q] 2)) := bwT
   first | (refine hK _ _ ⟨hz1, ?_⟩; clear hK K) | refine ⟨hz1, ?_⟩
   clear hz1
   refine norm_K fun K hK => ?_
   change wpList _ _ _ [_, _, _] _ _
   go_wp2_with (at_builtin; refine appn_one rfl _ _ rfl w22 ((w1.heap.size + 1) + 1) _ rfl dv (jdgS p st X Y 1) rfl q 1 rfl hoW.od (by have := hoW.bx.lt; simp; omega) (by have := HD.out; omega) ?_; intro g' cap' w' hown' hgb' hg' hge; have bx' := hoW.bx.bl hgb' (Nat.lt_succ_self _); have bc0 := bx'.c0; have bf0 := bx'.f0)
   first | (refine hK _ _ ⟨rfl, ?_⟩; clear hK K) | refine ⟨rfl, ?_⟩
   have hba : Below (w1.alloc (.cells #[.int .i64 p] 52)).heap.size (w1.alloc (.cells #[.int .i64 p] 52)) (w'.setCell ⟨(w1.heap.size + 1), 0, none⟩ (.slice (some ⟨g', 0, none⟩) ((jdgS p st X Y 1).length + 1) cap')) := bwS ((show Below (w1.alloc (.cells #[.int .i64 p] 52)).heap.size (w1.alloc (.cells #[.int .i64 p] 52)) w22 from bwC hb bwT).trans (hgb'.mono HN.out)) HM.out _
   have ho := hoW.num (nv := .slice (some ⟨g', 0, none⟩) ((jdgS p st X Y 1).length + 1) cap') rfl hown' hgb' hg' hge
   clear bc0 bf0 bx' hown'
   obtain ⟨wa, hwa⟩ : ∃ x, x = w'.setCell ⟨(w1.heap.size + 1), 0, none⟩ (.slice (some ⟨g', 0, none⟩) ((jdgS p st X Y 1).length + 1) cap') := ⟨_, rfl⟩
   rw [<- hwa] at hba ho ⊢; clear hwa
   have hs := hs_.below hba
   have hx := hx_.below hba
   have hy := hy_.below hba
   have d0 := kept hba d0_
   have d1 := kept hba d1_
   have e0 := kept hba e0_
   have e1 := kept hba e1_
   have f0 := kept hba f0_
   have f1 := kept hba f1_
   have hr := hr_.below hba
   have g0 := kept hba g0_
   have bc1 := ho.bx.c1
   have hoA := ho
   have hoF := ho.below (w' := wa.drew) bwT
   go_wp2_with fail
   refine region_flow [(false, [(0, 0), (1, 1), (2, 0), (3, 0), (4, 0), (5, 0), (6, 0), (7, 0), (8, 0), (9, 5)]), (false, [(10, 5)]), (false, [(11, 4), (12, 0), (13, 4)])] (by kernel_rfl) ?_
   refine norm_K fun K hK => ?_
   change wpList _ _ _ [_, _, _, _, _, _, _, _, _, _] _ _
   have hb21 : Below wa.heap.size wa wa.drew := bwT
   have hs := hs.below hb21; have hx := hx.below hb21; have hy := hy.below hb21; have hr := hr.below hb21; have d0 := kept hb21 d0; have d1 := kept hb21 d1; have e0 := kept hb21 e0; have e1 := kept hb21 e1; have f0 := kept hb21 f0; have f1 := kept hb21 f1; have g0 := kept hb21 g0; have ho := ho.below hb21; have bc1 := kept hb21 bc1
   go_wp2_with fail
   refine (half_c (ii := 2) (jj := 0) hd hs hx hX hy hY (by omega) (by omega) g0 d0 d1 e0 e1 f0 f1).mono ?_; rintro e w22 ⟨v2, rfl, hv2, hb22⟩
   have hs := hs.below hb22; have hx := hx.below hb22; have hy := hy.below hb22; have hr := hr.below hb22; have d0 := kept hb22 d0; have d1 := kept hb22 d1; have e0 := kept hb22 e0; have e1 := kept hb22 e1; have f0 := kept hb22 f0; have f1 := kept hb22 f1; have g0 := kept hb22 g0; have ho := ho.below hb22; have bc1 := kept hb22 bc1
   go_wp2_with fail
   have hz0 : Below wa.drew.heap.size wa.drew w22 := bwT
   first | (refine hK _ _ ⟨hz0, ?_⟩; clear hK K) | refine ⟨hz0, ?_⟩
   clear hz0
   refine norm_K fun K hK => ?_
   change wpList _ _ _ [_] _ _
   have hf := hoF.fresh hv2
   obtain ⟨g2, cap2, rfl, hv2o⟩ := id hv2
   have hoW := ho
   have hb23 : Below w22.heap.size w22 (w22.alloc (.cells #[.slice (some ⟨g2, 0, none⟩) (halfH p st X Y 2 0).length cap2] 24)) := bwT
   have hs := hs.below hb23; have hx := hx.below hb23; have hy := hy.below hb23; have hr := hr.below hb23; have d0 := kept hb23 d0; have d1 := kept hb23 d1; have e0 := kept hb23 e0; have e1 := kept hb23 e1; have f0 := kept hb23 f0; have f1 := kept hb23 f1; have g0 := kept hb23 g0; have ho := ho.below hb23; have bc1 := kept hb23 bc1
   have x0 : (w22.alloc (.cells #[.slice (some ⟨g2, 0, none⟩) (halfH p st X Y 2 0).length cap2] 24)).cell? ⟨w22.heap.size, 0, none⟩ = some (.slice (some ⟨g2, 0, none⟩) (halfH p st X Y 2 0).length cap2) := by simp [go_sem]
   go_wp2_with fail
   have hz1 : Below wa.drew.heap.size wa.drew (w22.alloc (.cells #[.slice (some ⟨g2, 0, none⟩) (halfH p st X Y 2 0).length cap2] 24)) := bwT
   first | (refine hK _ _ ⟨hz1, ?_⟩; clear hK K) | refine ⟨hz1, ?_⟩
   clear hz1
   refine norm_K fun K hK => ?_
   change wpList _ _ _ [_, _, _] _ _
   go_wp2_with (at_builtin; refine appr_one rfl _ _ rfl w22 ((w1.heap.size + 1) + 1) _ rfl uv us rfl (.slice (some ⟨g2, 0, none⟩) (halfH p st X Y 2 0).length cap2) 1 rfl rfl hoW.ou (by have := hoW.bx.lt; simp; omega) (by have := HU.out; omega) ?_; intro g3 cap3 w3 hown3 hgb3 hg3 hge3; have bx' := hoW.bx.bl hgb3 (Nat.lt_succ_self _); have bc1 := bx'.c1; have bf1 := bx'.f1)
   first | (refine hK _ _ ⟨rfl, ?_⟩; clear hK K) | refine ⟨rfl, ?_⟩
   have hbz : Below (w1.alloc (.cells #[.int .i64 p] 52)).heap.size (w1.alloc (.cells #[.int .i64 p] 52)) (w3.setCell ⟨(w1.heap.size + 1), 1, none⟩ (.slice (some ⟨g3, 0, none⟩) (us.length + 1) cap3)) := bwS ((show Below (w1.alloc (.cells #[.int .i64 p] 52)).heap.size (w1.alloc (.cells #[.int .i64 p] 52)) w22 from bwC hba bwT).trans (hgb3.mono HN.out)) HM.out _
   have hz := hoW.row (hv2.more (by simp; have := hoA.bx.lt; omega)) hf.1 hf.2 hown3 hgb3 hg3
   go_wp2_with fail
   go_roundw
   case rel => exact ⟨1 + 1, _, _, _, by omega, rfl, by rw [HQ.out] at hz; exact hz, hbz⟩
   case measure => simp [intOf]
  ·skip
   have hs := hs_.below hb
   have hx := hx_.below hb
   have hy := hy_.below hb
   have d0 := kept hb d0_
   have d1 := kept hb d1_
   have e0 := kept hb e0_
   have e1 := kept hb e1_
   have f0 := kept hb f0_
   have f1 := kept hb f1_
   have hr := hr_.below hb
   have g0 := kept hb g0_
   have bc0 := ho.bx.c0
   have x1 := halfH_ev (p := p) (st := st) (X := X) (Y := Y) (i := 2) (j := 2) (by omega) hX hY (by omega) (by omega)
   have L1 := Lib.hid x1.1
   obtain ⟨q, hq⟩ : ∃ q, q = (halfH p st X Y 2 2).getD 0 0 := ⟨_, rfl⟩
   have HQ := Lib.hid hq; clear hq x1
   go_wp2
   go_wp2_with fail
   refine region_flow [(false, [(0, 0), (1, 1), (2, 0), (3, 0), (4, 0), (5, 5)]), (false, [(6, 0), (7, 1), (8, 5)]), (false, [(9, 4), (10, 0), (11, 4)])] (by kernel_rfl) ?_
   refine norm_K fun K hK => ?_
   change wpList _ _ _ [_, _, _, _, _, _] _ _
   have hb21 : Below wr.heap.size wr wr.drew := bwT
   have hs := hs.below hb21; have hx := hx.below hb21; have hy := hy.below hb21; have hr := hr.below hb21; have d0 := kept hb21 d0; have d1 := kept hb21 d1; have e0 := kept hb21 e0; have e1 := kept hb21 e1; have f0 := kept hb21 f0; have f1 := kept hb21 f1; have g0 := kept hb21 g0; have ho := ho.below hb21; have bc0 := kept hb21 bc0
   go_wp2_with fail
   refine (half_c (ii := 2) (jj := 2) hd hs hx hX hy hY (by omega) (by omega) g0 d0 d1 e0 e1 f0 f1).mono ?_; rintro e w22 ⟨v1, rfl, ⟨g1, cap1, rfl, h1⟩, hb22⟩
   have hs := hs.below hb22; have hx := hx.below hb22; have hy := hy.below hb22; have hr := hr.below hb22; have d0 := kept hb22 d0; have d1 := kept hb22 d1; have e0 := kept hb22 e0; have e1 := kept hb22 e1; have f0 := kept hb22 f0; have f1 := kept hb22 f1; have g0 := kept hb22 g0; have ho := ho.below hb22; have bc0 := kept hb22 bc0
   go_wp2_with fail
   have hz0 : Below wr.drew.heap.size wr.drew w22 := bwT
   first | (refine hK _ _ ⟨hz0, ?_⟩; clear hK K) | refine ⟨hz0, ?_⟩
   clear hz0
   refine norm_K fun K hK => ?_
   change wpList _ _ _ [_, _, _] _ _
   rw [L1.out] at h1 ⊢
   have hc := h1.hold (i := 0) (by omega)
   rw [<- HQ.out] at hc
   have hoW := ho
   go_wp2_with fail
   have hb23 : Below w22.heap.size w22 (w22.alloc (.cells #[.int .i64 q] 2)) := bwT
   have hs := hs.below hb23; have hx := hx.below hb23; have hy := hy.below hb23; have hr := hr.below hb23; have d0 := kept hb23 d0; have d1 := kept hb23 d1; have e0 := kept hb23 e0; have e1 := kept hb23 e1; have f0 := kept hb23 f0; have f1 := kept hb23 f1; have g0 := kept hb23 g0; have ho := ho.below hb23; have bc0 := kept hb23 bc0
   have hl : OwnI (w22.alloc (.cells #[.int .i64 q] 2)) w22.heap.size w22.heap.size [q].length [q].length [q] := OwnI.lit (Nat.le_refl _) [q] (by simp)
   go_wp2_with fail
   have hz1 : Below wr.drew.heap.size wr.drew (w22.alloc (.cells #[.int .i64 q] 2)) := bwT
   first | (refine hK _ _ ⟨hz1, ?_⟩; clear hK K) | refine ⟨hz1, ?_⟩
   clear hz1
   refine norm_K fun K hK => ?_
   change wpList _ _ _ [_, _, _] _ _
   go_wp2_with (at_builtin; refine appn_one rfl _ _ rfl w22 ((w1.heap.size + 1) + 1) _ rfl dv (jdgS p st X Y 2) rfl q 1 rfl hoW.od (by have := hoW.bx.lt; simp; omega) (by have := HD.out; omega) ?_; intro g' cap' w' hown' hgb' hg' hge; have bx' := hoW.bx.bl hgb' (Nat.lt_succ_self _); have bc0 := bx'.c0; have bf0 := bx'.f0)
   first | (refine hK _ _ ⟨rfl, ?_⟩; clear hK K) | refine ⟨rfl, ?_⟩
   have hba : Below (w1.alloc (.cells #[.int .i64 p] 52)).heap.size (w1.alloc (.cells #[.int .i64 p] 52)) (w'.setCell ⟨(w1.heap.size + 1), 0, none⟩ (.slice (some ⟨g', 0, none⟩) ((jdgS p st X Y 2).length + 1) cap')) := bwS ((show Below (w1.alloc (.cells #[.int .i64 p] 52)).heap.size (w1.alloc (.cells #[.int .i64 p] 52)) w22 from bwC hb bwT).trans (hgb'.mono HN.out)) HM.out _
   have ho := hoW.num (nv := .slice (some ⟨g', 0, none⟩) ((jdgS p st X Y 2).length + 1) cap') rfl hown' hgb' hg' hge
   clear bc0 bf0 bx' hown'
   obtain ⟨wa, hwa⟩ : ∃ x, x = w'.setCell ⟨(w1.heap.size + 1), 0, none⟩ (.slice (some ⟨g', 0, none⟩) ((jdgS p st X Y 2).length + 1) cap') := ⟨_, rfl⟩
   rw [<- hwa] at hba ho ⊢; clear hwa
   have hs := hs_.below hba
   have hx := hx_.below hba
   have hy := hy_.below hba
   have d0 := kept hba d0_
   have d1 := kept hba d1_
   have e0 := kept hba e0_
   have e1 := kept hba e1_
   have f0 := kept hba f0_
   have f1 := kept hba f1_
   have hr := hr_.below hba
   have g0 := kept hba g0_
   have bc1 := ho.bx.c1
   have hoA := ho
   have hoF := ho.below (w' := wa.drew) bwT
   go_wp2_with fail
   refine region_flow [(false, [(0, 0), (1, 1), (2, 0), (3, 0), (4, 0), (5, 0), (6, 0), (7, 0), (8, 0), (9, 5)]), (false, [(10, 5)]), (false, [(11, 4), (12, 0), (13, 4)])] (by kernel_rfl) ?_
   refine norm_K fun K hK => ?_
   change wpList _ _ _ [_, _, _, _, _, _, _, _, _, _] _ _
   have hb21 : Below wa.heap.size wa wa.drew := bwT
   have hs := hs.below hb21; have hx := hx.below hb21; have hy := hy.below hb21; have hr := hr.below hb21; have d0 := kept hb21 d0; have d1 := kept hb21 d1; have e0 := kept hb21 e0; have e1 := kept hb21 e1; have f0 := kept hb21 f0; have f1 := kept hb21 f1; have g0 := kept hb21 g0; have ho := ho.below hb21; have bc1 := kept hb21 bc1
   go_wp2_with fail
   refine (half_c (ii := 0) (jj := 1) hd hs hx hX hy hY (by omega) (by omega) g0 d0 d1 e0 e1 f0 f1).mono ?_; rintro e w22 ⟨v2, rfl, hv2, hb22⟩
   have hs := hs.below hb22; have hx := hx.below hb22; have hy := hy.below hb22; have hr := hr.below hb22; have d0 := kept hb22 d0; have d1 := kept hb22 d1; have e0 := kept hb22 e0; have e1 := kept hb22 e1; have f0 := kept hb22 f0; have f1 := kept hb22 f1; have g0 := kept hb22 g0; have ho := ho.below hb22; have bc1 := kept hb22 bc1
   go_wp2_with fail
   have hz0 : Below wa.drew.heap.size wa.drew w22 := bwT
   first | (refine hK _ _ ⟨hz0, ?_⟩; clear hK K) | refine ⟨hz0, ?_⟩
   clear hz0
   refine norm_K fun K hK => ?_
   change wpList _ _ _ [_] _ _
   have hf := hoF.fresh hv2
   obtain ⟨g2, cap2, rfl, hv2o⟩ := id hv2
   have hoW := ho
   have hb23 : Below w22.heap.size w22 (w22.alloc (.cells #[.slice (some ⟨g2, 0, none⟩) (halfH p st X Y 0 1).length cap2] 24)) := bwT
   have hs := hs.below hb23; have hx := hx.below hb23; have hy := hy.below hb23; have hr := hr.below hb23; have d0 := kept hb23 d0; have d1 := kept hb23 d1; have e0 := kept hb23 e0; have e1 := kept hb23 e1; have f0 := kept hb23 f0; have f1 := kept hb23 f1; have g0 := kept hb23 g0; have ho := ho.below hb23; have bc1 := kept hb23 bc1
   have x0 : (w22.alloc (.cells #[.slice (some ⟨g2, 0, none⟩) (halfH p st X Y 0 1).length cap2] 24)).cell? ⟨w22.heap.size, 0, none⟩ = some (.slice (some ⟨g2, 0, none⟩) (halfH p st X Y 0 1).length cap2) := by simp [go_sem]
   go_wp2_with fail
   have hz1 : Below wa.drew.heap.size wa.drew (w22.alloc (.cells #[.slice (some ⟨g2, 0, none⟩) (halfH p st X Y 0 1).length cap2] 24)) := bwT
   first | (refine hK _ _ ⟨hz1, ?_⟩; clear hK K) | refine ⟨hz1, ?_⟩
   clear hz1
   refine norm_K fun K hK => ?_
   change wpList _ _ _ [_, _, _] _ _
   go_wp2_with (at_builtin; refine appr_one rfl _ _ rfl w22 ((w1.heap.size + 1) + 1) _ rfl uv us rfl (.slice (some ⟨g2, 0, none⟩) (halfH p st X Y 0 1).length cap2) 1 rfl rfl hoW.ou (by have := hoW.bx.lt; simp; omega) (by have := HU.out; omega) ?_; intro g3 cap3 w3 hown3 hgb3 hg3 hge3; have bx' := hoW.bx.bl hgb3 (Nat.lt_succ_self _); have bc1 := bx'.c1; have bf1 := bx'.f1)
   first | (refine hK _ _ ⟨rfl, ?_⟩; clear hK K) | refine ⟨rfl, ?_⟩
   have hbz : Below (w1.alloc (.cells #[.int .i64 p] 52)).heap.size (w1.alloc (.cells #[.int .i64 p] 52)) (w3.setCell ⟨(w1.heap.size + 1), 1, none⟩ (.slice (some ⟨g3, 0, none⟩) (us.length + 1) cap3)) := bwS ((show Below (w1.alloc (.cells #[.int .i64 p] 52)).heap.size (w1.alloc (.cells #[.int .i64 p] 52)) w22 from bwC hba bwT).trans (hgb3.mono HN.out)) HM.out _
   have hz := hoW.row (hv2.more (by simp; have := hoA.bx.lt; omega)) hf.1 hf.2 hown3 hgb3 hg3
   go_wp2_with fail
   go_roundw
   case rel => exact ⟨2 + 1, _, _, _, by omega, rfl, by rw [HQ.out] at hz; exact hz, hbz⟩
   case measure => simp [intOf]
  ·skip
   have hs := hs_.below hb
   have hx := hx_.below hb
   have hy := hy_.below hb
   have d0 := kept hb d0_
   have d1 := kept hb d1_
   have e0 := kept hb e0_
   have e1 := kept hb e1_
   have f0 := kept hb f0_
   have f1 := kept hb f1_
   have hr := hr_.below hb
   have g0 := kept hb g0_
   have hfr := ho.frh (by have := HD.out; omega) (by have := HU.out; omega)
   obtain ⟨gd, cd, rfl, _⟩ := ho.od.fr (by have := HD.out; omega)
   obtain ⟨gu, cu, rfl, _⟩ := World.ownsRow.form ho.ou (by have := HU.out; omega)
   have bc0 := ho.bx.c0; have bc1 := ho.bx.c1
   have rc0 := hr.c0; have rc1 := hr.c1; have rf0 := hr.f0; have rf1 := hr.f1
   go_wp2_with fail
   refine bodyPost_ret (v := .agg #[.slice (some ⟨gd, 0, none⟩) (jdgS p st X Y 3).length cd, .slice (some ⟨gu, 0, none⟩) us.length cu]) (by simp [results, Tryz.results71, go_sem, rc0, rc1]) rfl ⟨_, rfl, ?_, ?_⟩
   ·exact ((hfr.set_ (by simp; omega) _).set_ (by simp; omega) _).more (by omega)
   ·exact bwS (bwS (bwC (show Below w.heap.size w (w1.alloc (.cells #[.int .i64 p] 52)) from bwT) hb) (by simp; omega) _) (by simp; omega) _
end Go.Proofs.YtilgbekffbphgaaGreat
