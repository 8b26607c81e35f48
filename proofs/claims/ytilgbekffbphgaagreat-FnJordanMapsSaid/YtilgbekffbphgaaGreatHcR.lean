import Derived.Test.YtilgbekffbphgaaGreatHcQ
namespace Go.Proofs.YtilgbekffbphgaaGreat
open Go.RowKit
set_option maxHeartbeats 4000000 in
set_option maxRecDepth 100000 in
theorem sadj_c {p : Int} {s x : Value} {st : List Int} {X : Her} {w : World} (hd : Dok p st) (hs : El w s st) (hx : Hv w x X) (hX : isH p (sz st.length) X = true) :
  Calls Tryz.prog 48 #[.agg #[.int .i64 p, s], x] w fun e w' => ∃ v, e = .returned v /\ FrH w' w.heap.size v (adjH p st X) /\ Below w.heap.size w w' := by
 have hp1 := hd.hp.lo
 have hp2 := hd.hp.hi
 have hsz := sz_le hd
 have hl3 := hd.hl
 obtain ⟨a0, c0, rfl, _⟩ := id hs.op
 obtain ⟨a1, b1, c1, u1, v1, t1, bd1, od1, cd1, bu1, ou1, cu1, r1, s1, q1, rfl, rfl, ba1, bb1, bc1, eu1, ev1, et1, ca1, cb1, cc1, cr1, cs1, cq1, er1, es1, eq1, kd1, ku1⟩ := Hv.op3 hx hX
 rw [adjH_eq]
 have n0 := normL_fp (p := p) (st := st) (x := u1) (by omega)
 have n1 := normL_fp (p := p) (st := st) (x := v1) (by omega)
 have n2 := normL_fp (p := p) (st := st) (x := t1) (by omega)
 have y0 := mul2 (a := b1) (b := c1) (by omega) (by omega)
 have y1 := mul2 (a := c1) (b := a1) (by omega) (by omega)
 have y2 := mul2 (a := a1) (b := b1) (by omega) (by omega)
 have em0 := mulL_ev (p := p) (by omega) ev1 et1
 have em1 := mulL_ev (p := p) (by omega) et1 eu1
 have em2 := mulL_ev (p := p) (by omega) eu1 ev1
 have ec0 := em0.conj (by omega); have ec1 := em1.conj (by omega); have ec2 := em2.conj (by omega)
 obtain ⟨m0, hm0⟩ : ∃ m, m = normL p st u1 := ⟨_, rfl⟩
 obtain ⟨m1, hm1⟩ : ∃ m, m = normL p st v1 := ⟨_, rfl⟩
 obtain ⟨m2, hm2⟩ : ∃ m, m = normL p st t1 := ⟨_, rfl⟩
 rw [<- hm0] at n0; rw [<- hm1] at n1; rw [<- hm2] at n2
 have HM0 := Lib.hid hm0; have HM1 := Lib.hid hm1; have HM2 := Lib.hid hm2
 clear hm0 hm1 hm2
 have SU := eu1.sm (M := 1000000) (by omega) (by omega); have SV := ev1.sm (M := 1000000) (by omega) (by omega); have ST := et1.sm (M := 1000000) (by omega) (by omega)
 have S0 := ec0.sm (M := 1000000) (by omega) (by omega); have S1 := ec1.sm (M := 1000000) (by omega) (by omega); have S2 := ec2.sm (M := 1000000) (by omega) (by omega)
 have LU := Lib.hid eu1.1; have LV := Lib.hid ev1.1; have LT := Lib.hid et1.1
 have LM0 := Lib.hid em0.1; have LM1 := Lib.hid em1.1; have LM2 := Lib.hid em2.1
 have LC0 := Lib.hid ec0.1; have LC1 := Lib.hid ec1.1; have LC2 := Lib.hid ec2.1
 have hsc : ∀ xs ys k, plusL p xs (scaleL p ys k) (p - 1) = plusL p xs ys (-k) := fun _ _ _ => min_scale
 have HSC := Lib.hid hsc; clear hsc
 have LSU := Lib.hid (scaleL_len (p := p) (xs := u1) (k := a1)); have LSV := Lib.hid (scaleL_len (p := p) (xs := v1) (k := b1)); have LST := Lib.hid (scaleL_len (p := p) (xs := t1) (k := c1))
 have SSU := (scaleL_fp (p := p) (xs := u1) (k := a1) (by omega)).sm (M := 1000000) (by omega) (by omega); have SSV := (scaleL_fp (p := p) (xs := v1) (k := b1) (by omega)).sm (M := 1000000) (by omega) (by omega); have SST := (scaleL_fp (p := p) (xs := t1) (k := c1) (by omega)).sm (M := 1000000) (by omega) (by omega)
 go_enter Tryz.func48, Tryz.ntmps48
 have hb0 : Below w.heap.size w (((w.alloc (.cells #[.int .i64 p, .slice a0 st.length c0] 26)).alloc (.cells #[.slice (some ⟨bd1, od1, none⟩) 3 cd1, .slice (some ⟨bu1, ou1, none⟩) 3 cu1] 29)).alloc (.cells #[.slice none 0 0, .slice none 0 0] 29)) := bwT
 have hs := hs.below hb0; have ca1 := kept hb0 ca1; have cb1 := kept hb0 cb1; have cc1 := kept hb0 cc1; have cr1 := kept hb0 cr1; have cs1 := kept hb0 cs1; have cq1 := kept hb0 cq1; have er1 := er1.below hb0; have es1 := es1.below hb0; have eq1 := eq1.below hb0
 have d0 : (((w.alloc (.cells #[.int .i64 p, .slice a0 st.length c0] 26)).alloc (.cells #[.slice (some ⟨bd1, od1, none⟩) 3 cd1, .slice (some ⟨bu1, ou1, none⟩) 3 cu1] 29)).alloc (.cells #[.slice none 0 0, .slice none 0 0] 29)).cell? ⟨w.heap.size, 0, none⟩ = some (.int .i64 p) := by simp [go_sem]
 have d1 : (((w.alloc (.cells #[.int .i64 p, .slice a0 st.length c0] 26)).alloc (.cells #[.slice (some ⟨bd1, od1, none⟩) 3 cd1, .slice (some ⟨bu1, ou1, none⟩) 3 cu1] 29)).alloc (.cells #[.slice none 0 0, .slice none 0 0] 29)).cell? ⟨w.heap.size, 1, none⟩ = some (.slice a0 st.length c0) := by simp [go_sem]
 have e0 : (((w.alloc (.cells #[.int .i64 p, .slice a0 st.length c0] 26)).alloc (.cells #[.slice (some ⟨bd1, od1, none⟩) 3 cd1, .slice (some ⟨bu1, ou1, none⟩) 3 cu1] 29)).alloc (.cells #[.slice none 0 0, .slice none 0 0] 29)).cell? ⟨w.heap.size + 1, 0, none⟩ = some (.slice (some ⟨bd1, od1, none⟩) 3 cd1) := by simp [go_sem]
 have e1 : (((w.alloc (.cells #[.int .i64 p, .slice a0 st.length c0] 26)).alloc (.cells #[.slice (some ⟨bd1, od1, none⟩) 3 cd1, .slice (some ⟨bu1, ou1, none⟩) 3 cu1] 29)).alloc (.cells #[.slice none 0 0, .slice none 0 0] 29)).cell? ⟨w.heap.size + 1, 1, none⟩ = some (.slice (some ⟨bu1, ou1, none⟩) 3 cu1) := by simp [go_sem]
 have r0 : (((w.alloc (.cells #[.int .i64 p, .slice a0 st.length c0] 26)).alloc (.cells #[.slice (some ⟨bd1, od1, none⟩) 3 cd1, .slice (some ⟨bu1, ou1, none⟩) 3 cu1] 29)).alloc (.cells #[.slice none 0 0, .slice none 0 0] 29)).cell? ⟨w.heap.size + 1 + 1, 0, none⟩ = some (.slice none 0 0) := by simp [go_sem]
 have r1 : (((w.alloc (.cells #[.int .i64 p, .slice a0 st.length c0] 26)).alloc (.cells #[.slice (some ⟨bd1, od1, none⟩) 3 cd1, .slice (some ⟨bu1, ou1, none⟩) 3 cu1] 29)).alloc (.cells #[.slice none 0 0, .slice none 0 0] 29)).cell? ⟨w.heap.size + 1 + 1, 1, none⟩ = some (.slice none 0 0) := by simp [go_sem]
 have hr : Bx (((w.alloc (.cells #[.int .i64 p, .slice a0 st.length c0] 26)).alloc (.cells #[.slice (some ⟨bd1, od1, none⟩) 3 cd1, .slice (some ⟨bu1, ou1, none⟩) 3 cu1] 29)).alloc (.cells #[.slice none 0 0, .slice none 0 0] 29)) (w.heap.size + 1 + 1) (.slice none 0 0) (.slice none 0 0) := by rw [show w.heap.size + 1 + 1 = ((w.alloc (.cells #[.int .i64 p, .slice a0 st.length c0] 26)).alloc (.cells #[.slice (some ⟨bd1, od1, none⟩) 3 cd1, .slice (some ⟨bu1, ou1, none⟩) 3 cu1] 29)).heap.size by simp]; exact heap_alloc_new _ _
 have hbw0 : Below w.heap.size w (((w.alloc (.cells #[.int .i64 p, .slice a0 st.length c0] 26)).alloc (.cells #[.slice (some ⟨bd1, od1, none⟩) 3 cd1, .slice (some ⟨bu1, ou1, none⟩) 3 cu1] 29)).alloc (.cells #[.slice none 0 0, .slice none 0 0] 29)) := bwT
 have hWs : ((((w.alloc (.cells #[.int .i64 p, .slice a0 st.length c0] 26)).alloc (.cells #[.slice (some ⟨bd1, od1, none⟩) 3 cd1, .slice (some ⟨bu1, ou1, none⟩) 3 cu1] 29)).alloc (.cells #[.slice none 0 0, .slice none 0 0] 29))).heap.size = w.heap.size + 1 + 1 + 1 := by simp
 go_wp2
 obtain ⟨W0, hW0⟩ : ∃ W, W = (((w.alloc (.cells #[.int .i64 p, .slice a0 st.length c0] 26)).alloc (.cells #[.slice (some ⟨bd1, od1, none⟩) 3 cd1, .slice (some ⟨bu1, ou1, none⟩) 3 cu1] 29)).alloc (.cells #[.slice none 0 0, .slice none 0 0] 29)) := ⟨_, rfl⟩
 rw [<- hW0] at hbw0 hs ca1 cb1 cc1 cr1 cs1 cq1 er1 es1 eq1 d0 d1 e0 e1 hr hWs ⊢
 clear hW0
 have HN := Lib.hid (show W0.heap.size <= (w.heap.size + 1 + 1 + 1) + 1 by omega)
 have HM := Lib.hid (show W0.heap.size <= (w.heap.size + 1 + 1 + 1) by omega)
 have hWs2 := hWs
 have hs_ := hs
 have ca1_ := ca1
 have cb1_ := cb1
 have cc1_ := cc1
 have cr1_ := cr1
 have cs1_ := cs1
 have cq1_ := cq1
 have er1_ := er1
 have es1_ := es1
 have eq1_ := eq1
 have d0_ := d0
 have d1_ := d1
 have e0_ := e0
 have e1_ := e1
 have hr_ := hr
 go_loopw [6] (fun i wr => ∃ (k : Nat) (dv uv : Value) (us : List Value), k <= 3 /\ i = .int .i64 k /\ Out wr (w.heap.size + 1 + 1 + 1) dv uv us (adgS p st ⟨[a1, b1, c1], [u1, v1, t1]⟩ k) (aupS p st ⟨[a1, b1, c1], [u1, v1, t1]⟩ k) /\ Below W0.heap.size W0 wr) (fun i _ => 3 - (intOf i).toNat)
 case atStart => exact ⟨0, _, _, [], by omega, rfl, Out.start (by unfold Bx; rw [<- hWs]; exact heap_alloc_new _ _), bwT⟩
 case round =>
  obtain ⟨k, dv, uv, us, hk, rfl, ho, hb⟩ := hrel
  have HD := Lib.hid (adgS_len (p := p) (st := st) (X := ⟨[a1, b1, c1], [u1, v1, t1]⟩) k)
  have HU := Lib.hid (ho.ul.trans (aupS_len k))
  rcases (show k = 0 \/ k = 1 \/ k = 2 \/ k = 3 by omega) with rfl | rfl | rfl | rfl
  ·skip
   have hs := hs_.below hb
   have ca1 := kept hb ca1_
   have cb1 := kept hb cb1_
   have cc1 := kept hb cc1_
   have cr1 := kept hb cr1_
   have cs1 := kept hb cs1_
   have cq1 := kept hb cq1_
   have er1 := er1_.below hb
   have es1 := es1_.below hb
   have eq1 := eq1_.below hb
   have d0 := kept hb d0_
   have d1 := kept hb d1_
   have e0 := kept hb e0_
   have e1 := kept hb e1_
   have hr := hr_.below hb
   have hrw := hb.size
   have bc0 := ho.bx.c0
   go_wp2
   go_wp2_with fail
   refine region_flow [(false, [(0, 0), (1, 1), (2, 0), (3, 1), (4, 0), (5, 1), (6, 0), (7, 0), (8, 1), (9, 0), (10, 1), (11, 0), (12, 0), (13, 1), (14, 0), (15, 1), (16, 0), (17, 1), (18, 0), (19, 0), (20, 1), (21, 5)]), (false, [(22, 0), (23, 5)]), (false, [(24, 5)]), (false, [(25, 4), (26, 0), (27, 4)])] (by kernel_rfl) ?_
   refine norm_K fun K hK => ?_
   change wpList _ _ _ [_, _, _, _, _, _, _, _, _, _, _, _, _, _, _, _, _, _, _, _, _, _] _ _
   have hb21 : Below wr.heap.size wr wr.drew := bwT
   have hs := hs.below hb21; have ca1 := kept hb21 ca1; have cb1 := kept hb21 cb1; have cc1 := kept hb21 cc1; have cr1 := kept hb21 cr1; have cs1 := kept hb21 cs1; have cq1 := kept hb21 cq1; have er1 := er1.below hb21; have es1 := es1.below hb21; have eq1 := eq1.below hb21; have hr := hr.below hb21; have d0 := kept hb21 d0; have d1 := kept hb21 d1; have e0 := kept hb21 e0; have e1 := kept hb21 e1; have ho := ho.below hb21; have bc0 := kept hb21 bc0
   generalize wr.drew = wq at *
   go_wp2_with fail
   refine (snorm_c hd hs er1 eu1).mono ?_; rintro e w22 ⟨rfl, hb22⟩
   have hs := hs.below hb22; have ca1 := kept hb22 ca1; have cb1 := kept hb22 cb1; have cc1 := kept hb22 cc1; have cr1 := kept hb22 cr1; have cs1 := kept hb22 cs1; have cq1 := kept hb22 cq1; have er1 := er1.below hb22; have es1 := es1.below hb22; have eq1 := eq1.below hb22; have hr := hr.below hb22; have d0 := kept hb22 d0; have d1 := kept hb22 d1; have e0 := kept hb22 e0; have e1 := kept hb22 e1; have ho := ho.below hb22; have bc0 := kept hb22 bc0
   rw [<- HM0.out]
   go_wp2_with fail
   have hz0 : Below wq.heap.size wq w22 := bwT
   first | (refine hK _ _ ⟨hz0, ?_⟩; clear hK K) | refine ⟨hz0, ?_⟩
   clear hz0
   refine norm_K fun K hK => ?_
   change wpList _ _ _ [_, _] _ _
   go_wp2_with fail
   refine (smod_c (by omega) (by omega)).mono ?_; rintro e w23 ⟨rfl, rfl⟩
   go_wp2_with fail
   have hz1 : Below wq.heap.size wq w22 := bwT
   first | (refine hK _ _ ⟨hz1, ?_⟩; clear hK K) | refine ⟨hz1, ?_⟩
   clear hz1
   refine norm_K fun K hK => ?_
   change wpList _ _ _ [_] _ _
   have hoW := ho
   go_wp2_with fail
   have hb24 : Below w22.heap.size w22 (w22.alloc (.cells #[.int .i64 ((b1 * c1 - m0) % p)] 2)) := bwT
   have hs := hs.below hb24; have ca1 := kept hb24 ca1; have cb1 := kept hb24 cb1; have cc1 := kept hb24 cc1; have cr1 := kept hb24 cr1; have cs1 := kept hb24 cs1; have cq1 := kept hb24 cq1; have er1 := er1.below hb24; have es1 := es1.below hb24; have eq1 := eq1.below hb24; have hr := hr.below hb24; have d0 := kept hb24 d0; have d1 := kept hb24 d1; have e0 := kept hb24 e0; have e1 := kept hb24 e1; have ho := ho.below hb24; have bc0 := kept hb24 bc0
   have hl : OwnI (w22.alloc (.cells #[.int .i64 ((b1 * c1 - m0) % p)] 2)) w22.heap.size w22.heap.size [((b1 * c1 - m0) % p)].length [((b1 * c1 - m0) % p)].length [((b1 * c1 - m0) % p)] := OwnI.lit (Nat.le_refl _) [((b1 * c1 - m0) % p)] (by simp)
   go_wp2_with fail
   have hz2 : Below wq.heap.size wq (w22.alloc (.cells #[.int .i64 ((b1 * c1 - m0) % p)] 2)) := bwT
   first | (refine hK _ _ ⟨hz2, ?_⟩; clear hK K) | refine ⟨hz2, ?_⟩
   clear hz2
   refine norm_K fun K hK => ?_
   change wpList _ _ _ [_, _, _] _ _
   go_wp2_with (at_builtin; refine appn_one rfl _ _ rfl w22 ((w.heap.size + 1 + 1 + 1) + 1) _ rfl dv (adgS p st ⟨[a1, b1, c1], [u1, v1, t1]⟩ 0) rfl ((b1 * c1 - m0) % p) 1 rfl hoW.od (by have := hoW.bx.lt; simp; omega) (by have := HD.out; omega) ?_; intro g' cap' w' hown' hgb' hg' hge; have bx' := hoW.bx.bl hgb' (Nat.lt_succ_self _); have bc0 := bx'.c0; have bf0 := bx'.f0)
   first | (refine hK _ _ ⟨rfl, ?_⟩; clear hK K) | refine ⟨rfl, ?_⟩
   have hba : Below W0.heap.size W0 (w'.setCell ⟨(w.heap.size + 1 + 1 + 1), 0, none⟩ (.slice (some ⟨g', 0, none⟩) ((adgS p st ⟨[a1, b1, c1], [u1, v1, t1]⟩ 0).length + 1) cap')) := bwS ((show Below W0.heap.size W0 w22 from bwC hb bwT).trans (hgb'.mono HN.out)) HM.out _
   have ho := hoW.num (nv := .slice (some ⟨g', 0, none⟩) ((adgS p st ⟨[a1, b1, c1], [u1, v1, t1]⟩ 0).length + 1) cap') rfl hown' hgb' hg' hge
   clear bc0 bf0 bx' hown'
   obtain ⟨wa, hwa⟩ : ∃ x, x = w'.setCell ⟨(w.heap.size + 1 + 1 + 1), 0, none⟩ (.slice (some ⟨g', 0, none⟩) ((adgS p st ⟨[a1, b1, c1], [u1, v1, t1]⟩ 0).length + 1) cap') := ⟨_, rfl⟩
   rw [<- hwa] at hba ho ⊢; clear hwa
   have hs := hs_.below hba
   have ca1 := kept hba ca1_
   have cb1 := kept hba cb1_
   have cc1 := kept hba cc1_
   have cr1 := kept hba cr1_
   have cs1 := kept hba cs1_
   have cq1 := kept hba cq1_
   have er1 := er1_.below hba
   have es1 := es1_.below hba
   have eq1 := eq1_.below hba
   have d0 := kept hba d0_
   have d1 := kept hba d1_
   have e0 := kept hba e0_
   have e1 := kept hba e1_
   have hr := hr_.below hba
   have bc1 := ho.bx.c1
   go_wp2
   go_wp2_with fail
   refine region_flow [(false, [(0, 0), (1, 1), (2, 1), (3, 0), (4, 1), (5, 0), (6, 0), (7, 1), (8, 0), (9, 1), (10, 0), (11, 0), (12, 1), (13, 5)]), (false, [(14, 4), (15, 0)])] (by kernel_rfl) ?_
   refine norm_K fun K hK => ?_
   change wpList _ _ _ [_, _, _, _, _, _, _, _, _, _, _, _, _, _] _ _
   have hb21 : Below wa.heap.size wa wa.drew := bwT
   have hs := hs.below hb21; have ca1 := kept hb21 ca1; have cb1 := kept hb21 cb1; have cc1 := kept hb21 cc1; have cr1 := kept hb21 cr1; have cs1 := kept hb21 cs1; have cq1 := kept hb21 cq1; have er1 := er1.below hb21; have es1 := es1.below hb21; have eq1 := eq1.below hb21; have hr := hr.below hb21; have d0 := kept hb21 d0; have d1 := kept hb21 d1; have e0 := kept hb21 e0; have e1 := kept hb21 e1; have ho := ho.below hb21; have bc1 := kept hb21 bc1
   generalize wa.drew = wq at *
   go_wp2_with fail
   refine (stimes_c hd hs es1 eq1 ev1 et1).mono ?_; rintro e w22 ⟨z1, rfl, h1, hb22⟩
   have hs := hs.below hb22; have ca1 := kept hb22 ca1; have cb1 := kept hb22 cb1; have cc1 := kept hb22 cc1; have cr1 := kept hb22 cr1; have cs1 := kept hb22 cs1; have cq1 := kept hb22 cq1; have er1 := er1.below hb22; have es1 := es1.below hb22; have eq1 := eq1.below hb22; have hr := hr.below hb22; have d0 := kept hb22 d0; have d1 := kept hb22 d1; have e0 := kept hb22 e0; have e1 := kept hb22 e1; have ho := ho.below hb22; have bc1 := kept hb22 bc1
   go_wp2_with fail
   have hz0 : Below wq.heap.size wq w22 := bwT
   first | (refine hK _ _ ⟨hz0, ?_⟩; clear hK K) | refine ⟨hz0, ?_⟩
   clear hz0
   refine norm_K fun K hK => ?_
   change wpList _ _ _ [_, _] _ _
   go_wp2_with fail
   refine (sstar_c (by omega) (by omega) h1.el (by rw [LM0.out]; omega) em0.2 (by rw [LM0.out]; omega)).mono ?_; rintro e w23 ⟨z2, rfl, h2, hb23⟩
   have hs := hs.below hb23; have ca1 := kept hb23 ca1; have cb1 := kept hb23 cb1; have cc1 := kept hb23 cc1; have cr1 := kept hb23 cr1; have cs1 := kept hb23 cs1; have cq1 := kept hb23 cq1; have er1 := er1.below hb23; have es1 := es1.below hb23; have eq1 := eq1.below hb23; have hr := hr.below hb23; have d0 := kept hb23 d0; have d1 := kept hb23 d1; have e0 := kept hb23 e0; have e1 := kept hb23 e1; have ho := ho.below hb23; have bc1 := kept hb23 bc1; have h1 := h1.below hb23
   go_wp2_with fail
   first | (refine hK _ _ ⟨rfl, ?_⟩; clear hK K) | refine ⟨rfl, ?_⟩
   go_wp2_with fail
   refine region_flow [(false, [(0, 0), (1, 1), (2, 0), (3, 1), (4, 0), (5, 0), (6, 1), (7, 0), (8, 1), (9, 0), (10, 0), (11, 1), (12, 0), (13, 1), (14, 0), (15, 0), (16, 1), (17, 5)]), (false, [(18, 5)]), (false, [(19, 5)]), (false, [(20, 4), (21, 0), (22, 4)])] (by kernel_rfl) ?_
   refine norm_K fun K hK => ?_
   change wpList _ _ _ [_, _, _, _, _, _, _, _, _, _, _, _, _, _, _, _, _, _] _ _
   have hb24 : Below w23.heap.size w23 w23.drew := bwT
   have hs := hs.below hb24; have ca1 := kept hb24 ca1; have cb1 := kept hb24 cb1; have cc1 := kept hb24 cc1; have cr1 := kept hb24 cr1; have cs1 := kept hb24 cs1; have cq1 := kept hb24 cq1; have er1 := er1.below hb24; have es1 := es1.below hb24; have eq1 := eq1.below hb24; have hr := hr.below hb24; have d0 := kept hb24 d0; have d1 := kept hb24 d1; have e0 := kept hb24 e0; have e1 := kept hb24 e1; have ho := ho.below hb24; have bc1 := kept hb24 bc1; have h1 := h1.below hb24; have h2 := h2.below hb24
   generalize w23.drew = wp at *
   go_wp2_with fail
   refine (sscale_c (k := a1) (by omega) (by omega) (by omega) (by omega) er1.sl SU (by have := LU.out; omega)).mono ?_; rintro e w25 ⟨z3, rfl, h3, hb25⟩
   have hs := hs.below hb25; have ca1 := kept hb25 ca1; have cb1 := kept hb25 cb1; have cc1 := kept hb25 cc1; have cr1 := kept hb25 cr1; have cs1 := kept hb25 cs1; have cq1 := kept hb25 cq1; have er1 := er1.below hb25; have es1 := es1.below hb25; have eq1 := eq1.below hb25; have hr := hr.below hb25; have d0 := kept hb25 d0; have d1 := kept hb25 d1; have e0 := kept hb25 e0; have e1 := kept hb25 e1; have ho := ho.below hb25; have bc1 := kept hb25 bc1; have h1 := h1.below hb25; have h2 := h2.below hb25
   go_wp2_with fail
   have hz0 : Below wp.heap.size wp w25 := bwT
   first | (refine hK _ _ ⟨hz0, ?_⟩; clear hK K) | refine ⟨hz0, ?_⟩
   clear hz0
   refine norm_K fun K hK => ?_
   change wpList _ _ _ [_] _ _
   have hoF := ho
   have hoA := ho
   go_wp2_with fail
   refine (sminus_c (by omega) (by omega) h2.sl h3.sl S0 SSU (by rw [LC0.out, LSU.out, LU.out]) (by have := LC0.out; omega)).mono ?_; rintro e w26 ⟨z4, rfl, hv2, hb26⟩
   have hs := hs.below hb26; have ca1 := kept hb26 ca1; have cb1 := kept hb26 cb1; have cc1 := kept hb26 cc1; have cr1 := kept hb26 cr1; have cs1 := kept hb26 cs1; have cq1 := kept hb26 cq1; have er1 := er1.below hb26; have es1 := es1.below hb26; have eq1 := eq1.below hb26; have hr := hr.below hb26; have d0 := kept hb26 d0; have d1 := kept hb26 d1; have e0 := kept hb26 e0; have e1 := kept hb26 e1; have ho := ho.below hb26; have bc1 := kept hb26 bc1; have h1 := h1.below hb26; have h2 := h2.below hb26; have h3 := h3.below hb26
   go_wp2_with fail
   have hz1 : Below wp.heap.size wp w26 := bwT
   first | (refine hK _ _ ⟨hz1, ?_⟩; clear hK K) | refine ⟨hz1, ?_⟩
   clear hz1
   refine norm_K fun K hK => ?_
   change wpList _ _ _ [_] _ _
   rw [HSC.out] at hv2
   have hf := hoF.fresh hv2
   obtain ⟨g2, cap2, rfl, hv2o⟩ := id hv2
   have hoW := ho
   have hb27 : Below w26.heap.size w26 (w26.alloc (.cells #[.slice (some ⟨g2, 0, none⟩) (plusL p (conjL p (mulL p st v1 t1)) u1 (-a1)).length cap2] 24)) := bwT
   have hs := hs.below hb27; have ca1 := kept hb27 ca1; have cb1 := kept hb27 cb1; have cc1 := kept hb27 cc1; have cr1 := kept hb27 cr1; have cs1 := kept hb27 cs1; have cq1 := kept hb27 cq1; have er1 := er1.below hb27; have es1 := es1.below hb27; have eq1 := eq1.below hb27; have hr := hr.below hb27; have d0 := kept hb27 d0; have d1 := kept hb27 d1; have e0 := kept hb27 e0; have e1 := kept hb27 e1; have ho := ho.below hb27; have bc1 := kept hb27 bc1; have h1 := h1.below hb27; have h2 := h2.below hb27; have h3 := h3.below hb27
   have x0 : (w26.alloc (.cells #[.slice (some ⟨g2, 0, none⟩) (plusL p (conjL p (mulL p st v1 t1)) u1 (-a1)).length cap2] 24)).cell? ⟨w26.heap.size, 0, none⟩ = some (.slice (some ⟨g2, 0, none⟩) (plusL p (conjL p (mulL p st v1 t1)) u1 (-a1)).length cap2) := by simp [go_sem]
   go_wp2_with fail
   have hz2 : Below wp.heap.size wp (w26.alloc (.cells #[.slice (some ⟨g2, 0, none⟩) (plusL p (conjL p (mulL p st v1 t1)) u1 (-a1)).length cap2] 24)) := bwT
   first | (refine hK _ _ ⟨hz2, ?_⟩; clear hK K) | refine ⟨hz2, ?_⟩
   clear hz2
   refine norm_K fun K hK => ?_
   change wpList _ _ _ [_, _, _] _ _
   go_wp2_with (at_builtin; refine appr_one rfl _ _ rfl w26 ((w.heap.size + 1 + 1 + 1) + 1) _ rfl uv us rfl (.slice (some ⟨g2, 0, none⟩) (plusL p (conjL p (mulL p st v1 t1)) u1 (-a1)).length cap2) 1 rfl rfl hoW.ou (by have := hoW.bx.lt; simp; omega) (by have := HU.out; omega) ?_; intro g3 cap3 w3 hown3 hgb3 hg3 hge3; have bx' := hoW.bx.bl hgb3 (Nat.lt_succ_self _); have bc1 := bx'.c1; have bf1 := bx'.f1)
   first | (refine hK _ _ ⟨rfl, ?_⟩; clear hK K) | refine ⟨rfl, ?_⟩
   have hbz : Below W0.heap.size W0 (w3.setCell ⟨(w.heap.size + 1 + 1 + 1), 1, none⟩ (.slice (some ⟨g3, 0, none⟩) (us.length + 1) cap3)) := bwS ((show Below W0.heap.size W0 w26 from bwC hba bwT).trans (hgb3.mono HN.out)) HM.out _
   have hz := hoW.row (hv2.more (by have := hoA.bx.lt; first | omega | (simp; omega))) hf.1 hf.2 hown3 hgb3 hg3
   go_wp2_with fail
   go_roundw
   case rel => exact ⟨0 + 1, _, _, _, by omega, rfl, by rw [HM0.out] at hz; exact hz, hbz⟩
   case measure => simp [intOf]
  ·skip
   have hs := hs_.below hb
   have ca1 := kept hb ca1_
   have cb1 := kept hb cb1_
   have cc1 := kept hb cc1_
   have cr1 := kept hb cr1_
   have cs1 := kept hb cs1_
   have cq1 := kept hb cq1_
   have er1 := er1_.below hb
   have es1 := es1_.below hb
   have eq1 := eq1_.below hb
   have d0 := kept hb d0_
   have d1 := kept hb d1_
   have e0 := kept hb e0_
   have e1 := kept hb e1_
   have hr := hr_.below hb
   have hrw := hb.size
   have bc0 := ho.bx.c0
   go_wp2
   go_wp2_with fail
   refine region_flow [(false, [(0, 0), (1, 1), (2, 0), (3, 1), (4, 0), (5, 1), (6, 0), (7, 0), (8, 1), (9, 0), (10, 1), (11, 0), (12, 0), (13, 1), (14, 0), (15, 1), (16, 0), (17, 1), (18, 0), (19, 0), (20, 1), (21, 5)]), (false, [(22, 0), (23, 5)]), (false, [(24, 5)]), (false, [(25, 4), (26, 0), (27, 4)])] (by kernel_rfl) ?_
   refine norm_K fun K hK => ?_
   change wpList _ _ _ [_, _, _, _, _, _, _, _, _, _, _, _, _, _, _, _, _, _, _, _, _, _] _ _
   have hb21 : Below wr.heap.size wr wr.drew := bwT
   have hs := hs.below hb21; have ca1 := kept hb21 ca1; have cb1 := kept hb21 cb1; have cc1 := kept hb21 cc1; have cr1 := kept hb21 cr1; have cs1 := kept hb21 cs1; have cq1 := kept hb21 cq1; have er1 := er1.below hb21; have es1 := es1.below hb21; have eq1 := eq1.below hb21; have hr := hr.below hb21; have d0 := kept hb21 d0; have d1 := kept hb21 d1; have e0 := kept hb21 e0; have e1 := kept hb21 e1; have ho := ho.below hb21; have bc0 := kept hb21 bc0
   generalize wr.drew = wq at *
   go_wp2_with fail
   refine (snorm_c hd hs es1 ev1).mono ?_; rintro e w22 ⟨rfl, hb22⟩
   have hs := hs.below hb22; have ca1 := kept hb22 ca1; have cb1 := kept hb22 cb1; have cc1 := kept hb22 cc1; have cr1 := kept hb22 cr1; have cs1 := kept hb22 cs1; have cq1 := kept hb22 cq1; have er1 := er1.below hb22; have es1 := es1.below hb22; have eq1 := eq1.below hb22; have hr := hr.below hb22; have d0 := kept hb22 d0; have d1 := kept hb22 d1; have e0 := kept hb22 e0; have e1 := kept hb22 e1; have ho := ho.below hb22; have bc0 := kept hb22 bc0
   rw [<- HM1.out]
   go_wp2_with fail
   have hz0 : Below wq.heap.size wq w22 := bwT
   first | (refine hK _ _ ⟨hz0, ?_⟩; clear hK K) | refine ⟨hz0, ?_⟩
   clear hz0
   refine norm_K fun K hK => ?_
   change wpList _ _ _ [_, _] _ _
   go_wp2_with fail
   refine (smod_c (by omega) (by omega)).mono ?_; rintro e w23 ⟨rfl, rfl⟩
   go_wp2_with fail
   have hz1 : Below wq.heap.size wq w22 := bwT
   first | (refine hK _ _ ⟨hz1, ?_⟩; clear hK K) | refine ⟨hz1, ?_⟩
   clear hz1
   refine norm_K fun K hK => ?_
   change wpList _ _ _ [_] _ _
   have hoW := ho
   go_wp2_with fail
   have hb24 : Below w22.heap.size w22 (w22.alloc (.cells #[.int .i64 ((c1 * a1 - m1) % p)] 2)) := bwT
   have hs := hs.below hb24; have ca1 := kept hb24 ca1; have cb1 := kept hb24 cb1; have cc1 := kept hb24 cc1; have cr1 := kept hb24 cr1; have cs1 := kept hb24 cs1; have cq1 := kept hb24 cq1; have er1 := er1.below hb24; have es1 := es1.below hb24; have eq1 := eq1.below hb24; have hr := hr.below hb24; have d0 := kept hb24 d0; have d1 := kept hb24 d1; have e0 := kept hb24 e0; have e1 := kept hb24 e1; have ho := ho.below hb24; have bc0 := kept hb24 bc0
   have hl : OwnI (w22.alloc (.cells #[.int .i64 ((c1 * a1 - m1) % p)] 2)) w22.heap.size w22.heap.size [((c1 * a1 - m1) % p)].length [((c1 * a1 - m1) % p)].length [((c1 * a1 - m1) % p)] := OwnI.lit (Nat.le_refl _) [((c1 * a1 - m1) % p)] (by simp)
   go_wp2_with fail
   have hz2 : Below wq.heap.size wq (w22.alloc (.cells #[.int .i64 ((c1 * a1 - m1) % p)] 2)) := bwT
   first | (refine hK _ _ ⟨hz2, ?_⟩; clear hK K) | refine ⟨hz2, ?_⟩
   clear hz2
   refine norm_K fun K hK => ?_
   change wpList _ _ _ [_, _, _] _ _
   go_wp2_with (at_builtin; refine appn_one rfl _ _ rfl w22 ((w.heap.size + 1 + 1 + 1) + 1) _ rfl dv (adgS p st ⟨[a1, b1, c1], [u1, v1, t1]⟩ 1) rfl ((c1 * a1 - m1) % p) 1 rfl hoW.od (by have := hoW.bx.lt; simp; omega) (by have := HD.out; omega) ?_; intro g' cap' w' hown' hgb' hg' hge; have bx' := hoW.bx.bl hgb' (Nat.lt_succ_self _); have bc0 := bx'.c0; have bf0 := bx'.f0)
   first | (refine hK _ _ ⟨rfl, ?_⟩; clear hK K) | refine ⟨rfl, ?_⟩
   have hba : Below W0.heap.size W0 (w'.setCell ⟨(w.heap.size + 1 + 1 + 1), 0, none⟩ (.slice (some ⟨g', 0, none⟩) ((adgS p st ⟨[a1, b1, c1], [u1, v1, t1]⟩ 1).length + 1) cap')) := bwS ((show Below W0.heap.size W0 w22 from bwC hb bwT).trans (hgb'.mono HN.out)) HM.out _
   have ho := hoW.num (nv := .slice (some ⟨g', 0, none⟩) ((adgS p st ⟨[a1, b1, c1], [u1, v1, t1]⟩ 1).length + 1) cap') rfl hown' hgb' hg' hge
   clear bc0 bf0 bx' hown'
   obtain ⟨wa, hwa⟩ : ∃ x, x = w'.setCell ⟨(w.heap.size + 1 + 1 + 1), 0, none⟩ (.slice (some ⟨g', 0, none⟩) ((adgS p st ⟨[a1, b1, c1], [u1, v1, t1]⟩ 1).length + 1) cap') := ⟨_, rfl⟩
   rw [<- hwa] at hba ho ⊢; clear hwa
   have hs := hs_.below hba
   have ca1 := kept hba ca1_
   have cb1 := kept hba cb1_
   have cc1 := kept hba cc1_
   have cr1 := kept hba cr1_
   have cs1 := kept hba cs1_
   have cq1 := kept hba cq1_
   have er1 := er1_.below hba
   have es1 := es1_.below hba
   have eq1 := eq1_.below hba
   have d0 := kept hba d0_
   have d1 := kept hba d1_
   have e0 := kept hba e0_
   have e1 := kept hba e1_
   have hr := hr_.below hba
   have bc1 := ho.bx.c1
   go_wp2
   go_wp2_with fail
   refine region_flow [(false, [(0, 0), (1, 1), (2, 1), (3, 0), (4, 1), (5, 0), (6, 0), (7, 1), (8, 0), (9, 1), (10, 0), (11, 0), (12, 1), (13, 5)]), (false, [(14, 4), (15, 0)])] (by kernel_rfl) ?_
   refine norm_K fun K hK => ?_
   change wpList _ _ _ [_, _, _, _, _, _, _, _, _, _, _, _, _, _] _ _
   have hb21 : Below wa.heap.size wa wa.drew := bwT
   have hs := hs.below hb21; have ca1 := kept hb21 ca1; have cb1 := kept hb21 cb1; have cc1 := kept hb21 cc1; have cr1 := kept hb21 cr1; have cs1 := kept hb21 cs1; have cq1 := kept hb21 cq1; have er1 := er1.below hb21; have es1 := es1.below hb21; have eq1 := eq1.below hb21; have hr := hr.below hb21; have d0 := kept hb21 d0; have d1 := kept hb21 d1; have e0 := kept hb21 e0; have e1 := kept hb21 e1; have ho := ho.below hb21; have bc1 := kept hb21 bc1
   generalize wa.drew = wq at *
   go_wp2_with fail
   refine (stimes_c hd hs eq1 er1 et1 eu1).mono ?_; rintro e w22 ⟨z1, rfl, h1, hb22⟩
   have hs := hs.below hb22; have ca1 := kept hb22 ca1; have cb1 := kept hb22 cb1; have cc1 := kept hb22 cc1; have cr1 := kept hb22 cr1; have cs1 := kept hb22 cs1; have cq1 := kept hb22 cq1; have er1 := er1.below hb22; have es1 := es1.below hb22; have eq1 := eq1.below hb22; have hr := hr.below hb22; have d0 := kept hb22 d0; have d1 := kept hb22 d1; have e0 := kept hb22 e0; have e1 := kept hb22 e1; have ho := ho.below hb22; have bc1 := kept hb22 bc1
   go_wp2_with fail
   have hz0 : Below wq.heap.size wq w22 := bwT
   first | (refine hK _ _ ⟨hz0, ?_⟩; clear hK K) | refine ⟨hz0, ?_⟩
   clear hz0
   refine norm_K fun K hK => ?_
   change wpList _ _ _ [_, _] _ _
   go_wp2_with fail
   refine (sstar_c (by omega) (by omega) h1.el (by rw [LM1.out]; omega) em1.2 (by rw [LM1.out]; omega)).mono ?_; rintro e w23 ⟨z2, rfl, h2, hb23⟩
   have hs := hs.below hb23; have ca1 := kept hb23 ca1; have cb1 := kept hb23 cb1; have cc1 := kept hb23 cc1; have cr1 := kept hb23 cr1; have cs1 := kept hb23 cs1; have cq1 := kept hb23 cq1; have er1 := er1.below hb23; have es1 := es1.below hb23; have eq1 := eq1.below hb23; have hr := hr.below hb23; have d0 := kept hb23 d0; have d1 := kept hb23 d1; have e0 := kept hb23 e0; have e1 := kept hb23 e1; have ho := ho.below hb23; have bc1 := kept hb23 bc1; have h1 := h1.below hb23
   go_wp2_with fail
   first | (refine hK _ _ ⟨rfl, ?_⟩; clear hK K) | refine ⟨rfl, ?_⟩
   go_wp2_with fail
   refine region_flow [(false, [(0, 0), (1, 1), (2, 0), (3, 1), (4, 0), (5, 0), (6, 1), (7, 0), (8, 1), (9, 0), (10, 0), (11, 1), (12, 0), (13, 1), (14, 0), (15, 0), (16, 1), (17, 5)]), (false, [(18, 5)]), (false, [(19, 5)]), (false, [(20, 4), (21, 0), (22, 4)])] (by kernel_rfl) ?_
   refine norm_K fun K hK => ?_
   change wpList _ _ _ [_, _, _, _, _, _, _, _, _, _, _, _, _, _, _, _, _, _] _ _
   have hb24 : Below w23.heap.size w23 w23.drew := bwT
   have hs := hs.below hb24; have ca1 := kept hb24 ca1; have cb1 := kept hb24 cb1; have cc1 := kept hb24 cc1; have cr1 := kept hb24 cr1; have cs1 := kept hb24 cs1; have cq1 := kept hb24 cq1; have er1 := er1.below hb24; have es1 := es1.below hb24; have eq1 := eq1.below hb24; have hr := hr.below hb24; have d0 := kept hb24 d0; have d1 := kept hb24 d1; have e0 := kept hb24 e0; have e1 := kept hb24 e1; have ho := ho.below hb24; have bc1 := kept hb24 bc1; have h1 := h1.below hb24; have h2 := h2.below hb24
   generalize w23.drew = wp at *
   go_wp2_with fail
   refine (sscale_c (k := b1) (by omega) (by omega) (by omega) (by omega) es1.sl SV (by have := LV.out; omega)).mono ?_; rintro e w25 ⟨z3, rfl, h3, hb25⟩
   have hs := hs.below hb25; have ca1 := kept hb25 ca1; have cb1 := kept hb25 cb1; have cc1 := kept hb25 cc1; have cr1 := kept hb25 cr1; have cs1 := kept hb25 cs1; have cq1 := kept hb25 cq1; have er1 := er1.below hb25; have es1 := es1.below hb25; have eq1 := eq1.below hb25; have hr := hr.below hb25; have d0 := kept hb25 d0; have d1 := kept hb25 d1; have e0 := kept hb25 e0; have e1 := kept hb25 e1; have ho := ho.below hb25; have bc1 := kept hb25 bc1; have h1 := h1.below hb25; have h2 := h2.below hb25
   go_wp2_with fail
   have hz0 : Below wp.heap.size wp w25 := bwT
   first | (refine hK _ _ ⟨hz0, ?_⟩; clear hK K) | refine ⟨hz0, ?_⟩
   clear hz0
   refine norm_K fun K hK => ?_
   change wpList _ _ _ [_] _ _
   have hoF := ho
   have hoA := ho
   go_wp2_with fail
   refine (sminus_c (by omega) (by omega) h2.sl h3.sl S1 SSV (by rw [LC1.out, LSV.out, LV.out]) (by have := LC1.out; omega)).mono ?_; rintro e w26 ⟨z4, rfl, hv2, hb26⟩
   have hs := hs.below hb26; have ca1 := kept hb26 ca1; have cb1 := kept hb26 cb1; have cc1 := kept hb26 cc1; have cr1 := kept hb26 cr1; have cs1 := kept hb26 cs1; have cq1 := kept hb26 cq1; have er1 := er1.below hb26; have es1 := es1.below hb26; have eq1 := eq1.below hb26; have hr := hr.below hb26; have d0 := kept hb26 d0; have d1 := kept hb26 d1; have e0 := kept hb26 e0; have e1 := kept hb26 e1; have ho := ho.below hb26; have bc1 := kept hb26 bc1; have h1 := h1.below hb26; have h2 := h2.below hb26; have h3 := h3.below hb26
   go_wp2_with fail
   have hz1 : Below wp.heap.size wp w26 := bwT
   first | (refine hK _ _ ⟨hz1, ?_⟩; clear hK K) | refine ⟨hz1, ?_⟩
   clear hz1
   refine norm_K fun K hK => ?_
   change wpList _ _ _ [_] _ _
   rw [HSC.out] at hv2
   have hf := hoF.fresh hv2
   obtain ⟨g2, cap2, rfl, hv2o⟩ := id hv2
   have hoW := ho
   have hb27 : Below w26.heap.size w26 (w26.alloc (.cells #[.slice (some ⟨g2, 0, none⟩) (plusL p (conjL p (mulL p st t1 u1)) v1 (-b1)).length cap2] 24)) := bwT
   have hs := hs.below hb27; have ca1 := kept hb27 ca1; have cb1 := kept hb27 cb1; have cc1 := kept hb27 cc1; have cr1 := kept hb27 cr1; have cs1 := kept hb27 cs1; have cq1 := kept hb27 cq1; have er1 := er1.below hb27; have es1 := es1.below hb27; have eq1 := eq1.below hb27; have hr := hr.below hb27; have d0 := kept hb27 d0; have d1 := kept hb27 d1; have e0 := kept hb27 e0; have e1 := kept hb27 e1; have ho := ho.below hb27; have bc1 := kept hb27 bc1; have h1 := h1.below hb27; have h2 := h2.below hb27; have h3 := h3.below hb27
   have x0 : (w26.alloc (.cells #[.slice (some ⟨g2, 0, none⟩) (plusL p (conjL p (mulL p st t1 u1)) v1 (-b1)).length cap2] 24)).cell? ⟨w26.heap.size, 0, none⟩ = some (.slice (some ⟨g2, 0, none⟩) (plusL p (conjL p (mulL p st t1 u1)) v1 (-b1)).length cap2) := by simp [go_sem]
   go_wp2_with fail
   have hz2 : Below wp.heap.size wp (w26.alloc (.cells #[.slice (some ⟨g2, 0, none⟩) (plusL p (conjL p (mulL p st t1 u1)) v1 (-b1)).length cap2] 24)) := bwT
   first | (refine hK _ _ ⟨hz2, ?_⟩; clear hK K) | refine ⟨hz2, ?_⟩
   clear hz2
   refine norm_K fun K hK => ?_
   change wpList _ _ _ [_, _, _] _ _
   go_wp2_with (at_builtin; refine appr_one rfl _ _ rfl w26 ((w.heap.size + 1 + 1 + 1) + 1) _ rfl uv us rfl (.slice (some ⟨g2, 0, none⟩) (plusL p (conjL p (mulL p st t1 u1)) v1 (-b1)).length cap2) 1 rfl rfl hoW.ou (by have := hoW.bx.lt; simp; omega) (by have := HU.out; omega) ?_; intro g3 cap3 w3 hown3 hgb3 hg3 hge3; have bx' := hoW.bx.bl hgb3 (Nat.lt_succ_self _); have bc1 := bx'.c1; have bf1 := bx'.f1)
   first | (refine hK _ _ ⟨rfl, ?_⟩; clear hK K) | refine ⟨rfl, ?_⟩
   have hbz : Below W0.heap.size W0 (w3.setCell ⟨(w.heap.size + 1 + 1 + 1), 1, none⟩ (.slice (some ⟨g3, 0, none⟩) (us.length + 1) cap3)) := bwS ((show Below W0.heap.size W0 w26 from bwC hba bwT).trans (hgb3.mono HN.out)) HM.out _
   have hz := hoW.row (hv2.more (by have := hoA.bx.lt; first | omega | (simp; omega))) hf.1 hf.2 hown3 hgb3 hg3
   go_wp2_with fail
   go_roundw
   case rel => exact ⟨1 + 1, _, _, _, by omega, rfl, by rw [HM1.out] at hz; exact hz, hbz⟩
   case measure => simp [intOf]
  ·skip
   have hs := hs_.below hb
   have ca1 := kept hb ca1_
   have cb1 := kept hb cb1_
   have cc1 := kept hb cc1_
   have cr1 := kept hb cr1_
   have cs1 := kept hb cs1_
   have cq1 := kept hb cq1_
   have er1 := er1_.below hb
   have es1 := es1_.below hb
   have eq1 := eq1_.below hb
   have d0 := kept hb d0_
   have d1 := kept hb d1_
   have e0 := kept hb e0_
   have e1 := kept hb e1_
   have hr := hr_.below hb
   have hrw := hb.size
   have bc0 := ho.bx.c0
   go_wp2
   go_wp2_with fail
   refine region_flow [(false, [(0, 0), (1, 1), (2, 0), (3, 1), (4, 0), (5, 1), (6, 0), (7, 0), (8, 1), (9, 0), (10, 1), (11, 0), (12, 0), (13, 1), (14, 0), (15, 1), (16, 0), (17, 1), (18, 0), (19, 0), (20, 1), (21, 5)]), (false, [(22, 0), (23, 5)]), (false, [(24, 5)]), (false, [(25, 4), (26, 0), (27, 4)])] (by kernel_rfl) ?_
   refine norm_K fun K hK => ?_
   change wpList _ _ _ [_, _, _, _, _, _, _, _, _, _, _, _, _, _, _, _, _, _, _, _, _, _] _ _
   have hb21 : Below wr.heap.size wr wr.drew := bwT
   have hs := hs.below hb21; have ca1 := kept hb21 ca1; have cb1 := kept hb21 cb1; have cc1 := kept hb21 cc1; have cr1 := kept hb21 cr1; have cs1 := kept hb21 cs1; have cq1 := kept hb21 cq1; have er1 := er1.below hb21; have es1 := es1.below hb21; have eq1 := eq1.below hb21; have hr := hr.below hb21; have d0 := kept hb21 d0; have d1 := kept hb21 d1; have e0 := kept hb21 e0; have e1 := kept hb21 e1; have ho := ho.below hb21; have bc0 := kept hb21 bc0
   generalize wr.drew = wq at *
   go_wp2_with fail
   refine (snorm_c hd hs eq1 et1).mono ?_; rintro e w22 ⟨rfl, hb22⟩
   have hs := hs.below hb22; have ca1 := kept hb22 ca1; have cb1 := kept hb22 cb1; have cc1 := kept hb22 cc1; have cr1 := kept hb22 cr1; have cs1 := kept hb22 cs1; have cq1 := kept hb22 cq1; have er1 := er1.below hb22; have es1 := es1.below hb22; have eq1 := eq1.below hb22; have hr := hr.below hb22; have d0 := kept hb22 d0; have d1 := kept hb22 d1; have e0 := kept hb22 e0; have e1 := kept hb22 e1; have ho := ho.below hb22; have bc0 := kept hb22 bc0
   rw [<- HM2.out]
   go_wp2_with fail
   have hz0 : Below wq.heap.size wq w22 := bwT
   first | (refine hK _ _ ⟨hz0, ?_⟩; clear hK K) | refine ⟨hz0, ?_⟩
   clear hz0
   refine norm_K fun K hK => ?_
   change wpList _ _ _ [_, _] _ _
   go_wp2_with fail
   refine (smod_c (by omega) (by omega)).mono ?_; rintro e w23 ⟨rfl, rfl⟩
   go_wp2_with fail
   have hz1 : Below wq.heap.size wq w22 := bwT
   first | (refine hK _ _ ⟨hz1, ?_⟩; clear hK K) | refine ⟨hz1, ?_⟩
   clear hz1
   refine norm_K fun K hK => ?_
   change wpList _ _ _ [_] _ _
   have hoW := ho
   go_wp2_with fail
   have hb24 : Below w22.heap.size w22 (w22.alloc (.cells #[.int .i64 ((a1 * b1 - m2) % p)] 2)) := bwT
   have hs := hs.below hb24; have ca1 := kept hb24 ca1; have cb1 := kept hb24 cb1; have cc1 := kept hb24 cc1; have cr1 := kept hb24 cr1; have cs1 := kept hb24 cs1; have cq1 := kept hb24 cq1; have er1 := er1.below hb24; have es1 := es1.below hb24; have eq1 := eq1.below hb24; have hr := hr.below hb24; have d0 := kept hb24 d0; have d1 := kept hb24 d1; have e0 := kept hb24 e0; have e1 := kept hb24 e1; have ho := ho.below hb24; have bc0 := kept hb24 bc0
   have hl : OwnI (w22.alloc (.cells #[.int .i64 ((a1 * b1 - m2) % p)] 2)) w22.heap.size w22.heap.size [((a1 * b1 - m2) % p)].length [((a1 * b1 - m2) % p)].length [((a1 * b1 - m2) % p)] := OwnI.lit (Nat.le_refl _) [((a1 * b1 - m2) % p)] (by simp)
   go_wp2_with fail
   have hz2 : Below wq.heap.size wq (w22.alloc (.cells #[.int .i64 ((a1 * b1 - m2) % p)] 2)) := bwT
   first | (refine hK _ _ ⟨hz2, ?_⟩; clear hK K) | refine ⟨hz2, ?_⟩
   clear hz2
   refine norm_K fun K hK => ?_
   change wpList _ _ _ [_, _, _] _ _
   go_wp2_with (at_builtin; refine appn_one rfl _ _ rfl w22 ((w.heap.size + 1 + 1 + 1) + 1) _ rfl dv (adgS p st ⟨[a1, b1, c1], [u1, v1, t1]⟩ 2) rfl ((a1 * b1 - m2) % p) 1 rfl hoW.od (by have := hoW.bx.lt; simp; omega) (by have := HD.out; omega) ?_; intro g' cap' w' hown' hgb' hg' hge; have bx' := hoW.bx.bl hgb' (Nat.lt_succ_self _); have bc0 := bx'.c0; have bf0 := bx'.f0)
   first | (refine hK _ _ ⟨rfl, ?_⟩; clear hK K) | refine ⟨rfl, ?_⟩
   have hba : Below W0.heap.size W0 (w'.setCell ⟨(w.heap.size + 1 + 1 + 1), 0, none⟩ (.slice (some ⟨g', 0, none⟩) ((adgS p st ⟨[a1, b1, c1], [u1, v1, t1]⟩ 2).length + 1) cap')) := bwS ((show Below W0.heap.size W0 w22 from bwC hb bwT).trans (hgb'.mono HN.out)) HM.out _
   have ho := hoW.num (nv := .slice (some ⟨g', 0, none⟩) ((adgS p st ⟨[a1, b1, c1], [u1, v1, t1]⟩ 2).length + 1) cap') rfl hown' hgb' hg' hge
   clear bc0 bf0 bx' hown'
   obtain ⟨wa, hwa⟩ : ∃ x, x = w'.setCell ⟨(w.heap.size + 1 + 1 + 1), 0, none⟩ (.slice (some ⟨g', 0, none⟩) ((adgS p st ⟨[a1, b1, c1], [u1, v1, t1]⟩ 2).length + 1) cap') := ⟨_, rfl⟩
   rw [<- hwa] at hba ho ⊢; clear hwa
   have hs := hs_.below hba
   have ca1 := kept hba ca1_
   have cb1 := kept hba cb1_
   have cc1 := kept hba cc1_
   have cr1 := kept hba cr1_
   have cs1 := kept hba cs1_
   have cq1 := kept hba cq1_
   have er1 := er1_.below hba
   have es1 := es1_.below hba
   have eq1 := eq1_.below hba
   have d0 := kept hba d0_
   have d1 := kept hba d1_
   have e0 := kept hba e0_
   have e1 := kept hba e1_
   have hr := hr_.below hba
   have bc1 := ho.bx.c1
   go_wp2
   go_wp2_with fail
   refine region_flow [(false, [(0, 0), (1, 1), (2, 1), (3, 0), (4, 1), (5, 0), (6, 0), (7, 1), (8, 0), (9, 1), (10, 0), (11, 0), (12, 1), (13, 5)]), (false, [(14, 4), (15, 0)])] (by kernel_rfl) ?_
   refine norm_K fun K hK => ?_
   change wpList _ _ _ [_, _, _, _, _, _, _, _, _, _, _, _, _, _] _ _
   have hb21 : Below wa.heap.size wa wa.drew := bwT
   have hs := hs.below hb21; have ca1 := kept hb21 ca1; have cb1 := kept hb21 cb1; have cc1 := kept hb21 cc1; have cr1 := kept hb21 cr1; have cs1 := kept hb21 cs1; have cq1 := kept hb21 cq1; have er1 := er1.below hb21; have es1 := es1.below hb21; have eq1 := eq1.below hb21; have hr := hr.below hb21; have d0 := kept hb21 d0; have d1 := kept hb21 d1; have e0 := kept hb21 e0; have e1 := kept hb21 e1; have ho := ho.below hb21; have bc1 := kept hb21 bc1
   generalize wa.drew = wq at *
   go_wp2_with fail
   refine (stimes_c hd hs er1 es1 eu1 ev1).mono ?_; rintro e w22 ⟨z1, rfl, h1, hb22⟩
   have hs := hs.below hb22; have ca1 := kept hb22 ca1; have cb1 := kept hb22 cb1; have cc1 := kept hb22 cc1; have cr1 := kept hb22 cr1; have cs1 := kept hb22 cs1; have cq1 := kept hb22 cq1; have er1 := er1.below hb22; have es1 := es1.below hb22; have eq1 := eq1.below hb22; have hr := hr.below hb22; have d0 := kept hb22 d0; have d1 := kept hb22 d1; have e0 := kept hb22 e0; have e1 := kept hb22 e1; have ho := ho.below hb22; have bc1 := kept hb22 bc1
   go_wp2_with fail
   have hz0 : Below wq.heap.size wq w22 := bwT
   first | (refine hK _ _ ⟨hz0, ?_⟩; clear hK K) | refine ⟨hz0, ?_⟩
   clear hz0
   refine norm_K fun K hK => ?_
   change wpList _ _ _ [_, _] _ _
   go_wp2_with fail
   refine (sstar_c (by omega) (by omega) h1.el (by rw [LM2.out]; omega) em2.2 (by rw [LM2.out]; omega)).mono ?_; rintro e w23 ⟨z2, rfl, h2, hb23⟩
   have hs := hs.below hb23; have ca1 := kept hb23 ca1; have cb1 := kept hb23 cb1; have cc1 := kept hb23 cc1; have cr1 := kept hb23 cr1; have cs1 := kept hb23 cs1; have cq1 := kept hb23 cq1; have er1 := er1.below hb23; have es1 := es1.below hb23; have eq1 := eq1.below hb23; have hr := hr.below hb23; have d0 := kept hb23 d0; have d1 := kept hb23 d1; have e0 := kept hb23 e0; have e1 := kept hb23 e1; have ho := ho.below hb23; have bc1 := kept hb23 bc1; have h1 := h1.below hb23
   go_wp2_with fail
   first | (refine hK _ _ ⟨rfl, ?_⟩; clear hK K) | refine ⟨rfl, ?_⟩
   go_wp2_with fail
   refine region_flow [(false, [(0, 0), (1, 1), (2, 0), (3, 1), (4, 0), (5, 0), (6, 1), (7, 0), (8, 1), (9, 0), (10, 0), (11, 1), (12, 0), (13, 1), (14, 0), (15, 0), (16, 1), (17, 5)]), (false, [(18, 5)]), (false, [(19, 5)]), (false, [(20, 4), (21, 0), (22, 4)])] (by kernel_rfl) ?_
   refine norm_K fun K hK => ?_
   change wpList _ _ _ [_, _, _, _, _, _, _, _, _, _, _, _, _, _, _, _, _, _] _ _
   have hb24 : Below w23.heap.size w23 w23.drew := bwT
   have hs := hs.below hb24; have ca1 := kept hb24 ca1; have cb1 := kept hb24 cb1; have cc1 := kept hb24 cc1; have cr1 := kept hb24 cr1; have cs1 := kept hb24 cs1; have cq1 := kept hb24 cq1; have er1 := er1.below hb24; have es1 := es1.below hb24; have eq1 := eq1.below hb24; have hr := hr.below hb24; have d0 := kept hb24 d0; have d1 := kept hb24 d1; have e0 := kept hb24 e0; have e1 := kept hb24 e1; have ho := ho.below hb24; have bc1 := kept hb24 bc1; have h1 := h1.below hb24; have h2 := h2.below hb24
   generalize w23.drew = wp at *
   go_wp2_with fail
   refine (sscale_c (k := c1) (by omega) (by omega) (by omega) (by omega) eq1.sl ST (by have := LT.out; omega)).mono ?_; rintro e w25 ⟨z3, rfl, h3, hb25⟩
   have hs := hs.below hb25; have ca1 := kept hb25 ca1; have cb1 := kept hb25 cb1; have cc1 := kept hb25 cc1; have cr1 := kept hb25 cr1; have cs1 := kept hb25 cs1; have cq1 := kept hb25 cq1; have er1 := er1.below hb25; have es1 := es1.below hb25; have eq1 := eq1.below hb25; have hr := hr.below hb25; have d0 := kept hb25 d0; have d1 := kept hb25 d1; have e0 := kept hb25 e0; have e1 := kept hb25 e1; have ho := ho.below hb25; have bc1 := kept hb25 bc1; have h1 := h1.below hb25; have h2 := h2.below hb25
   go_wp2_with fail
   have hz0 : Below wp.heap.size wp w25 := bwT
   first | (refine hK _ _ ⟨hz0, ?_⟩; clear hK K) | refine ⟨hz0, ?_⟩
   clear hz0
   refine norm_K fun K hK => ?_
   change wpList _ _ _ [_] _ _
   have hoF := ho
   have hoA := ho
   go_wp2_with fail
   refine (sminus_c (by omega) (by omega) h2.sl h3.sl S2 SST (by rw [LC2.out, LST.out, LT.out]) (by have := LC2.out; omega)).mono ?_; rintro e w26 ⟨z4, rfl, hv2, hb26⟩
   have hs := hs.below hb26; have ca1 := kept hb26 ca1; have cb1 := kept hb26 cb1; have cc1 := kept hb26 cc1; have cr1 := kept hb26 cr1; have cs1 := kept hb26 cs1; have cq1 := kept hb26 cq1; have er1 := er1.below hb26; have es1 := es1.below hb26; have eq1 := eq1.below hb26; have hr := hr.below hb26; have d0 := kept hb26 d0; have d1 := kept hb26 d1; have e0 := kept hb26 e0; have e1 := kept hb26 e1; have ho := ho.below hb26; have bc1 := kept hb26 bc1; have h1 := h1.below hb26; have h2 := h2.below hb26; have h3 := h3.below hb26
   go_wp2_with fail
   have hz1 : Below wp.heap.size wp w26 := bwT
   first | (refine hK _ _ ⟨hz1, ?_⟩; clear hK K) | refine ⟨hz1, ?_⟩
   clear hz1
   refine norm_K fun K hK => ?_
   change wpList _ _ _ [_] _ _
   rw [HSC.out] at hv2
   have hf := hoF.fresh hv2
   obtain ⟨g2, cap2, rfl, hv2o⟩ := id hv2
   have hoW := ho
   have hb27 : Below w26.heap.size w26 (w26.alloc (.cells #[.slice (some ⟨g2, 0, none⟩) (plusL p (conjL p (mulL p st u1 v1)) t1 (-c1)).length cap2] 24)) := bwT
   have hs := hs.below hb27; have ca1 := kept hb27 ca1; have cb1 := kept hb27 cb1; have cc1 := kept hb27 cc1; have cr1 := kept hb27 cr1; have cs1 := kept hb27 cs1; have cq1 := kept hb27 cq1; have er1 := er1.below hb27; have es1 := es1.below hb27; have eq1 := eq1.below hb27; have hr := hr.below hb27; have d0 := kept hb27 d0; have d1 := kept hb27 d1; have e0 := kept hb27 e0; have e1 := kept hb27 e1; have ho := ho.below hb27; have bc1 := kept hb27 bc1; have h1 := h1.below hb27; have h2 := h2.below hb27; have h3 := h3.below hb27
   have x0 : (w26.alloc (.cells #[.slice (some ⟨g2, 0, none⟩) (plusL p (conjL p (mulL p st u1 v1)) t1 (-c1)).length cap2] 24)).cell? ⟨w26.heap.size, 0, none⟩ = some (.slice (some ⟨g2, 0, none⟩) (plusL p (conjL p (mulL p st u1 v1)) t1 (-c1)).length cap2) := by simp [go_sem]
   go_wp2_with fail
   have hz2 : Below wp.heap.size wp (w26.alloc (.cells #[.slice (some ⟨g2, 0, none⟩) (plusL p (conjL p (mulL p st u1 v1)) t1 (-c1)).length cap2] 24)) := bwT
   first | (refine hK _ _ ⟨hz2, ?_⟩; clear hK K) | refine ⟨hz2, ?_⟩
   clear hz2
   refine norm_K fun K hK => ?_
   change wpList _ _ _ [_, _, _] _ _
   go_wp2_with (at_builtin; refine appr_one rfl _ _ rfl w26 ((w.heap.size + 1 + 1 + 1) + 1) _ rfl uv us rfl (.slice (some ⟨g2, 0, none⟩) (plusL p (conjL p (mulL p st u1 v1)) t1 (-c1)).length cap2) 1 rfl rfl hoW.ou (by have := hoW.bx.lt; simp; omega) (by have := HU.out; omega) ?_; intro g3 cap3 w3 hown3 hgb3 hg3 hge3; have bx' := hoW.bx.bl hgb3 (Nat.lt_succ_self _); have bc1 := bx'.c1; have bf1 := bx'.f1)
   first | (refine hK _ _ ⟨rfl, ?_⟩; clear hK K) | refine ⟨rfl, ?_⟩
   have hbz : Below W0.heap.size W0 (w3.setCell ⟨(w.heap.size + 1 + 1 + 1), 1, none⟩ (.slice (some ⟨g3, 0, none⟩) (us.length + 1) cap3)) := bwS ((show Below W0.heap.size W0 w26 from bwC hba bwT).trans (hgb3.mono HN.out)) HM.out _
   have hz := hoW.row (hv2.more (by have := hoA.bx.lt; first | omega | (simp; omega))) hf.1 hf.2 hown3 hgb3 hg3
   go_wp2_with fail
   go_roundw
   case rel => exact ⟨2 + 1, _, _, _, by omega, rfl, by rw [HM2.out] at hz; exact hz, hbz⟩
   case measure => simp [intOf]
  ·skip
   have hs := hs_.below hb
   have ca1 := kept hb ca1_
   have cb1 := kept hb cb1_
   have cc1 := kept hb cc1_
   have cr1 := kept hb cr1_
   have cs1 := kept hb cs1_
   have cq1 := kept hb cq1_
   have er1 := er1_.below hb
   have es1 := es1_.below hb
   have eq1 := eq1_.below hb
   have d0 := kept hb d0_
   have d1 := kept hb d1_
   have e0 := kept hb e0_
   have e1 := kept hb e1_
   have hr := hr_.below hb
   have hfr := ho.frh (by have := HD.out; omega) (by have := HU.out; omega)
   obtain ⟨gd, cd, rfl, _⟩ := ho.od.fr (by have := HD.out; omega)
   obtain ⟨gu, cu, rfl, _⟩ := World.ownsRow.form ho.ou (by have := HU.out; omega)
   have bc0 := ho.bx.c0; have bc1 := ho.bx.c1
   have rc0 := hr.c0; have rc1 := hr.c1; have rf0 := hr.f0; have rf1 := hr.f1
   have hbe := bwC hbw0 hb
   go_wp2_with fail
   refine bodyPost_ret (v := .agg #[.slice (some ⟨gd, 0, none⟩) (adgS p st ⟨[a1, b1, c1], [u1, v1, t1]⟩ 3).length cd, .slice (some ⟨gu, 0, none⟩) us.length cu]) (by simp [results, Tryz.results48, go_sem, rc0, rc1]) rfl ⟨_, rfl, ?_, ?_⟩
   ·exact ((hfr.set_ (by first | omega | simp <;> omega) _).set_ (by first | omega | simp <;> omega) _).more (by omega)
   ·exact bwS (bwS hbe (by first | omega | simp <;> omega) _) (by first | omega | simp <;> omega) _
end Go.Proofs.YtilgbekffbphgaaGreat
