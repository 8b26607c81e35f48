import Derived.Test.YtilgbekffbphgaaGreatTrE
import Derived.Test.YtilgbekffbphgaaGreatJaz
import Derived.Test.YtilgbekffbphgaaGreatJaj
import Derived.Test.YtilgbekffbphgaaGreatJbv
namespace Go.Proofs.YtilgbekffbphgaaGreat
open Go.RowKit
set_option maxHeartbeats 8000000 in
set_option maxRecDepth 100000 in
theorem iMapEntries_c {p0 : Int} {x0 : Value} {st0 : List Int} {x1 : Value} {M1 : List (List Int)} {x2 : Value} {X2 : Her} {w : World} (hx0 : El w x0 st0) (hm0 : st0.length <= 1048576) (hx1 : Re w x1 M1) (hm1 : Msz M1) (hx2 : Hv w x2 X2) (hz2 : Hsz X2) :
  Calls Tryz.prog 6 #[.agg #[.int .i64 p0, x0], x1, x2] w fun e w' => ∃ v0, e = .returned (.tuple #[v0, .int .i64 (RMapEntries1 p0 st0 M1 X2)]) /\ OwH w' w.heap.size v0 (RMapEntries0 p0 st0 M1 X2) /\ Below w.heap.size w w' := by
 obtain ⟨a0, c0, rfl, _⟩ := id hx0.op
 obtain ⟨am, cm, rfl, _⟩ := id hx1
 obtain ⟨dv2, uv2, rfl, hd2_, hu2_⟩ := id hx2; obtain ⟨a2, c2, rfl, _⟩ := id hd2_.op; obtain ⟨b2, e2, rfl, _⟩ := id hu2_; clear hd2_ hu2_
 obtain ⟨W, hW⟩ : ∃ W, W = ((((w.alloc (.cells #[.int .i64 p0, .slice a0 st0.length c0] 26)).alloc (.cells #[.slice a2 X2.dg.length c2, .slice b2 X2.up.length e2] 29)).alloc (.cells #[.slice none 0 0, .slice none 0 0] 29)).alloc (.cells #[.slice a2 X2.dg.length c2, .slice b2 X2.up.length e2] 29)) := ⟨_, rfl⟩
 have hbW : Below w.heap.size w W := by rw [hW]; exact bwT
 have hx0 := hx0.below hbW
 have hx1 := hx1.below hbW
 have hx2 := hx2.below hbW
 have d00 : W.cell? ⟨w.heap.size, 0, none⟩ = some (.int .i64 p0) := by rw [hW]; simp [go_sem]
 have d01 : W.cell? ⟨w.heap.size, 1, none⟩ = some (.slice a0 st0.length c0) := by rw [hW]; simp [go_sem]
 have d20 : W.cell? ⟨w.heap.size + 1, 0, none⟩ = some (.slice a2 X2.dg.length c2) := by rw [hW]; simp [go_sem]
 have d21 : W.cell? ⟨w.heap.size + 1, 1, none⟩ = some (.slice b2 X2.up.length e2) := by rw [hW]; simp [go_sem]
 have hr : Bx W (w.heap.size + 1 + 1) (.slice none 0 0) (.slice none 0 0) := by rw [hW]; exact Bx.below (by unfold Bx; rw [show w.heap.size + 1 + 1 = ((w.alloc (.cells #[.int .i64 p0, .slice a0 st0.length c0] 26)).alloc (.cells #[.slice a2 X2.dg.length c2, .slice b2 X2.up.length e2] 29)).heap.size by simp]; exact heap_alloc_new _ _) bwT
 have hWs : W.heap.size = w.heap.size + 1 + 1 + 1 + 1 := by rw [hW]; simp
 have gl : Lh W (.slice (some ⟨w.heap.size + 1 + 1 + 1, 0, none⟩) 1 1) [X2] := Lh.one hx2 (by rw [hW]; simp [go_sem]) (by rw [hW]; simp [go_sem])
 have hcon := chkh_c (p := p0) hx0 hm0 gl (by intro X hX; simp at hX; subst hX; exact hz2) (by simp)
 have HWs := Lib.hid hWs; clear hWs
 rw [hW] at hcon
 by_cases h0 : chkH p0 st0 [X2] = 0
 case neg =>
  have e1 : RMapEntries1 p0 st0 M1 X2 = chkH p0 st0 [X2] := if_neg h0
  rw [show RMapEntries0 p0 st0 M1 X2 = ⟨[], []⟩ from if_neg (by rw [e1]; exact h0), e1]; clear e1
  obtain ⟨k, hk⟩ : ∃ k, k = chkH p0 st0 [X2] := ⟨_, rfl⟩
  rw [<- hk] at h0 hcon ⊢
  clear hk
  have hne : (k == 0) = false := by simpa using h0
  go_enter Tryz.func6, Tryz.ntmps6
  go_wp2_with fail
  refine hcon.mono ?_; rintro e w1 ⟨rfl, hb1⟩
  rw [<- hW] at hb1
  clear hW hcon
  have hr := hr.below hb1
  have rc0 := hr.c0; have rc1 := hr.c1; have rf0 := hr.f0; have rf1 := hr.f1
  go_wp2_with fail
  refine bodyPost_ret (v := .tuple #[.agg #[.slice none 0 0, .slice none 0 0], .int .i64 k]) (by simp [results, Tryz.results6, go_sem, rc0, rc1]) rfl ⟨_, rfl, .inl ⟨rfl, rfl⟩, ?_⟩
  exact bwS (bwS bwT (by first | omega | simp <;> omega) _) (by first | omega | simp <;> omega) _
 rw [h0] at hcon
 obtain ⟨hd, hall⟩ := chkH_pos h0
 have hX2 : isH p0 (sz st0.length) X2 = true := by simp at hall; exact hall
 clear hall
 have hp1 := hd.hp.lo; have hp2 := hd.hp.hi; have hsz := sz_le hd
 obtain ⟨z, hz⟩ : ∃ z, z = matB p0 (sz st0.length) M1 := ⟨_, rfl⟩
 have HZ := Lib.hid hz
 cases z with
 | false =>
  have e1 : RMapEntries1 p0 st0 M1 X2 = 2 := by unfold RMapEntries1; rw [if_pos h0, if_neg (by rw [<- hz]; decide)]
  rw [show RMapEntries0 p0 st0 M1 X2 = ⟨[], []⟩ from if_neg (by rw [e1]; decide), e1]; clear e1 hz h0
  go_enter Tryz.func6, Tryz.ntmps6
  go_wp2_with fail
  refine hcon.mono ?_; rintro e w1 ⟨rfl, hb1⟩
  rw [<- hW] at hb1
  clear hW hcon
  have hx0 := hx0.below hb1; have hx1 := hx1.below hb1; have hx2 := hx2.below hb1; have d00 := kept hb1 d00; have d01 := kept hb1 d01; have d20 := kept hb1 d20; have d21 := kept hb1 d21; have hr := hr.below hb1
  go_wp2_with fail
  refine (ismatrix_c hd hx0 hx1 hm1.h3 hm1.h2).mono ?_; rintro e w22 ⟨rfl, hb22⟩
  have hx0 := hx0.below hb22; have hx1 := hx1.below hb22; have hx2 := hx2.below hb22; have d00 := kept hb22 d00; have d01 := kept hb22 d01; have d20 := kept hb22 d20; have d21 := kept hb22 d21; have hr := hr.below hb22
  rw [<- HZ.out]
  have rc0 := hr.c0; have rc1 := hr.c1; have rf0 := hr.f0; have rf1 := hr.f1
  go_wp2_with fail
  refine bodyPost_ret (v := .tuple #[.agg #[.slice none 0 0, .slice none 0 0], .int .i64 2]) (by simp [results, Tryz.results6, go_sem, rc0, rc1]) rfl ⟨_, rfl, .inl ⟨rfl, rfl⟩, ?_⟩
  exact bwS (bwS bwT (by first | omega | simp <;> omega) _) (by first | omega | simp <;> omega) _
 | true =>
  have hM : matB p0 (sz st0.length) M1 = true := hz.symm
  obtain ⟨y, hy⟩ : ∃ y, y = autB p0 st0 M1 := ⟨_, rfl⟩
  have HY := Lib.hid hy
  have HA := Lib.hid (aut_eq hd hM)
  cases y with
  | false =>
   have e1 : RMapEntries1 p0 st0 M1 X2 = 5 := by unfold RMapEntries1; rw [if_pos h0, if_pos hM, if_neg (by rw [<- hy]; decide)]
   rw [show RMapEntries0 p0 st0 M1 X2 = ⟨[], []⟩ from if_neg (by rw [e1]; decide), e1]; clear e1 hz h0 hy
   go_enter Tryz.func6, Tryz.ntmps6
   go_wp2_with fail
   refine hcon.mono ?_; rintro e w1 ⟨rfl, hb1⟩
   rw [<- hW] at hb1
   clear hW hcon
   have hx0 := hx0.below hb1; have hx1 := hx1.below hb1; have hx2 := hx2.below hb1; have d00 := kept hb1 d00; have d01 := kept hb1 d01; have d20 := kept hb1 d20; have d21 := kept hb1 d21; have hr := hr.below hb1
   go_wp2_with fail
   refine (ismatrix_c hd hx0 hx1 hm1.h3 hm1.h2).mono ?_; rintro e w22 ⟨rfl, hb22⟩
   have hx0 := hx0.below hb22; have hx1 := hx1.below hb22; have hx2 := hx2.below hb22; have d00 := kept hb22 d00; have d01 := kept hb22 d01; have d20 := kept hb22 d20; have d21 := kept hb22 d21; have hr := hr.below hb22
   rw [<- HZ.out]
   go_wp2_with fail
   refine (isaut_c hd hx0 hx1 hM).mono ?_; rintro e w23 ⟨rfl, hb23⟩
   have hx0 := hx0.below hb23; have hx1 := hx1.below hb23; have hx2 := hx2.below hb23; have d00 := kept hb23 d00; have d01 := kept hb23 d01; have d20 := kept hb23 d20; have d21 := kept hb23 d21; have hr := hr.below hb23
   rw [HA.out]; rw [<- HY.out]
   have rc0 := hr.c0; have rc1 := hr.c1; have rf0 := hr.f0; have rf1 := hr.f1
   go_wp2_with fail
   refine bodyPost_ret (v := .tuple #[.agg #[.slice none 0 0, .slice none 0 0], .int .i64 5]) (by simp [results, Tryz.results6, go_sem, rc0, rc1]) rfl ⟨_, rfl, .inl ⟨rfl, rfl⟩, ?_⟩
   exact bwS (bwS bwT (by first | omega | simp <;> omega) _) (by first | omega | simp <;> omega) _
  | true =>
   have e1 : RMapEntries1 p0 st0 M1 X2 = 0 := by unfold RMapEntries1; rw [if_pos h0, if_pos hM, if_pos hy.symm]
   rw [show RMapEntries0 p0 st0 M1 X2 = mapH p0 M1 X2 from if_pos e1, e1]; clear e1 hz h0 hy
   have hpt := isH_parts hX2
   have hul : X2.up.length = 3 := hpt.2.2.1
   have hdl : X2.dg.length = 3 := hpt.1
   have hrow : ∀ xs ∈ X2.up, Ev p0 (sz st0.length) xs := hpt.2.2.2
   have hMw := (matB_iff.1 hM).2
   have hMl : M1.length <= 8 := by have := (matB_iff.1 hM).1; omega
   have hsz2 : 1 <= sz st0.length /\ sz st0.length <= 8 := hsz
   have HUL := Lib.hid hul; have HDL := Lib.hid hdl; have HMW := Lib.hid hMw
   clear hpt hul hdl hMw
   go_enter Tryz.func6, Tryz.ntmps6
   go_wp2_with fail
   refine hcon.mono ?_; rintro e w1 ⟨rfl, hb1⟩
   rw [<- hW] at hb1
   clear hW hcon
   have hx0 := hx0.below hb1; have hx1 := hx1.below hb1; have hx2 := hx2.below hb1; have d00 := kept hb1 d00; have d01 := kept hb1 d01; have d20 := kept hb1 d20; have d21 := kept hb1 d21; have hr := hr.below hb1
   go_wp2_with fail
   refine (ismatrix_c hd hx0 hx1 hm1.h3 hm1.h2).mono ?_; rintro e w22 ⟨rfl, hb22⟩
   have hx0 := hx0.below hb22; have hx1 := hx1.below hb22; have hx2 := hx2.below hb22; have d00 := kept hb22 d00; have d01 := kept hb22 d01; have d20 := kept hb22 d20; have d21 := kept hb22 d21; have hr := hr.below hb22
   rw [<- HZ.out]
   go_wp2_with fail
   refine (isaut_c hd hx0 hx1 hM).mono ?_; rintro e w23 ⟨rfl, hb23⟩
   have hx0 := hx0.below hb23; have hx1 := hx1.below hb23; have hx2 := hx2.below hb23; have d00 := kept hb23 d00; have d01 := kept hb23 d01; have d20 := kept hb23 d20; have d21 := kept hb23 d21; have hr := hr.below hb23
   rw [HA.out]; rw [<- HY.out]
   obtain ⟨_, _, e_, hdg, hup⟩ := id hx2
   cases e_
   go_wp2_with fail
   refine (clone_c hdg.sl (by rw [HDL.out]; omega) (by rw [HDL.out]; omega)).mono ?_; rintro e w24 ⟨v9, rfl, hv, hb24⟩
   have hx0 := hx0.below hb24; have hx1 := hx1.below hb24; have hx2 := hx2.below hb24; have d00 := kept hb24 d00; have d01 := kept hb24 d01; have d20 := kept hb24 d20; have d21 := kept hb24 d21; have hr := hr.below hb24; have hdg := hdg.below hb24; have hup := hup.below hb24
   obtain ⟨gd, cd, rfl, hvo⟩ := id hv
   have hz1_ : w.heap.size + 1 + 1 + 1 + 1 <= w1.heap.size := by have := hb1.size; have := HWs.out; omega
   have hz2_ : w1.heap.size <= w24.heap.size := (below_le bwT)
   have hz4_ : w1.heap.size <= w23.heap.size := (below_le bwT)
   have hbw := bwC hbW (bwC hb1 (show Below w1.heap.size w1 w24 from bwT))
   have hgl := hvo.lt
   obtain ⟨_, _, e_, _, _, hcell⟩ := id hup
   cases e_
   obtain ⟨bb, ob, rfl, hcel2⟩ := hcell.resolve_left (fun e => by have := HUL.out; rw [e] at this; simp at this)
   have HC := Lib.hid hcel2
   clear hcell hcel2 hbW hb1
   have hN0 : Bx (w24.alloc (.cells #[.slice (some ⟨gd, 0, none⟩) X2.dg.length cd, .slice none 0 0] 29)) w24.heap.size (.slice (some ⟨gd, 0, none⟩) X2.dg.length cd) (.slice none 0 0) := heap_alloc_new _ _
   have hO0 : OutU (w24.alloc (.cells #[.slice (some ⟨gd, 0, none⟩) X2.dg.length cd, .slice none 0 0] 29)) w24.heap.size (.slice (some ⟨gd, 0, none⟩) X2.dg.length cd) (.slice none 0 0) [] [] := ⟨hN0, OwV.nil _ _, RowsA.nil _ _⟩
   have hbA : Below w24.heap.size w24 (w24.alloc (.cells #[.slice (some ⟨gd, 0, none⟩) X2.dg.length cd, .slice none 0 0] 29)) := bwT
   have d21a := kept hbA d21
   clear hN0
   go_wp2_with fail
   clear d21a
   go_loopw [37] (fun i wr => ∃ (k : Nat) (uv : Value) (us : List Value), k <= 3 /\ i = .int .i64 k /\ us.length = k /\ OutU wr w24.heap.size (.slice (some ⟨gd, 0, none⟩) X2.dg.length cd) uv us ((X2.up.take k).map (applyL p0 M1)) /\ Below w24.heap.size w24 wr) (fun i _ => 3 - (intOf i).toNat)
   case atStart => exact ⟨0, _, [], by omega, rfl, rfl, hO0, hbA⟩
   case round =>
    clear hO0 hbA
    obtain ⟨k, uv, us, hk, rfl, hul, ho, hb⟩ := hrel
    have HU := Lib.hid hul; clear hul
    have hx0 := hx0.below hb; have hx1 := hx1.below hb; have d00 := kept hb d00; have d01 := kept hb d01; have d20 := kept hb d20; have d21 := kept hb d21; have hr := hr.below hb; have hv := hv.below hb
    by_cases hlt : k < 3
    ·have hltu : k < X2.up.length := by rw [HUL.out]; exact hlt
     obtain ⟨u, hcu, hE⟩ := HC.out k hltu
     have ht : X2.up.take (k + 1) = X2.up.take k ++ [X2.up[k]] := List.take_succ_eq_append_getElem hltu
     have hrw := hrow X2.up[k] (List.getElem_mem _)
     obtain ⟨x, hx_⟩ : ∃ x, x = X2.up[k] := ⟨_, rfl⟩
     rw [<- hx_] at hE ht hrw
     obtain ⟨ax, cx, rfl, _⟩ := id hE.op
     have hcu := kept hb hcu; have hE := hE.below hb
     have HT := Lib.hid (show (X2.up.take (k + 1)).map (applyL p0 M1) = (X2.up.take k).map (applyL p0 M1) ++ [applyL p0 M1 x] by rw [ht, List.map_append]; rfl)
     have bc1 := ho.bx.c1
     have HRW := Lib.hid hrw
     clear hx_ ht hrw
     go_wp2
     go_wp2_with fail
     refine region_flow [(false, [(0, 0), (1, 1), (2, 1), (4, 0), (5, 0), (3, 5)]), (false, [(6, 5)]), (false, [(7, 5)]), (false, [(8, 4), (9, 0), (10, 4)])] (by kernel_rfl) ?_
     refine norm_K fun K hK => ?_
     change wpList _ _ _ [_, _, _, _, _, _] _ _
     have hb21 : Below wr.heap.size wr wr.drew := bwT
     have hx0 := hx0.below hb21; have hx1 := hx1.below hb21; have d00 := kept hb21 d00; have d01 := kept hb21 d01; have hr := hr.below hb21; have hE := hE.below hb21; have ho := ho.below hb21; have bc1 := kept hb21 bc1
     generalize wr.drew = wq at *
     have hoF := ho
     go_wp2_with fail
     refine (dfield_c).mono ?_; rintro e w22 ⟨rfl, hb22⟩
     have hx0 := hx0.below hb22; have hx1 := hx1.below hb22; have d00 := kept hb22 d00; have d01 := kept hb22 d01; have hr := hr.below hb22; have hE := hE.below hb22; have ho := ho.below hb22; have bc1 := kept hb22 bc1
     go_wp2_with fail
     have hz0 : Below wq.heap.size wq w22 := bwT
     first | (refine hK _ _ ⟨hz0, ?_⟩; clear hK K) | refine ⟨hz0, ?_⟩
     clear hz0
     refine norm_K fun K hK => ?_
     change wpList _ _ _ [_] _ _
     have hoF := ho
     go_wp2_with fail
     refine (apply_c (n := sz st0.length) (by omega) (by omega) hx1 HMW.out hE HRW.out (by omega) (by omega)).mono ?_; rintro e w23 ⟨z1, rfl, hv2, hb23⟩
     have hx0 := hx0.below hb23; have hx1 := hx1.below hb23; have d00 := kept hb23 d00; have d01 := kept hb23 d01; have hr := hr.below hb23; have hE := hE.below hb23; have ho := ho.below hb23; have bc1 := kept hb23 bc1
     go_wp2_with fail
     have hz1 : Below wq.heap.size wq w23 := bwT
     first | (refine hK _ _ ⟨hz1, ?_⟩; clear hK K) | refine ⟨hz1, ?_⟩
     clear hz1
     refine norm_K fun K hK => ?_
     change wpList _ _ _ [_] _ _
     have hf := hoF.rows.fresh hv2
     obtain ⟨g2, cap2, rfl, hv2o⟩ := id hv2
     have hoW := ho
     have hb24 : Below w23.heap.size w23 (w23.alloc (.cells #[.slice (some ⟨g2, 0, none⟩) (applyL p0 M1 x).length cap2] 24)) := bwT
     have hx0 := hx0.below hb24; have hx1 := hx1.below hb24; have d00 := kept hb24 d00; have d01 := kept hb24 d01; have hr := hr.below hb24; have hE := hE.below hb24; have ho := ho.below hb24; have bc1 := kept hb24 bc1
     have x0 : (w23.alloc (.cells #[.slice (some ⟨g2, 0, none⟩) (applyL p0 M1 x).length cap2] 24)).cell? ⟨w23.heap.size, 0, none⟩ = some (.slice (some ⟨g2, 0, none⟩) (applyL p0 M1 x).length cap2) := by simp [go_sem]
     go_wp2_with fail
     have hz2 : Below wq.heap.size wq (w23.alloc (.cells #[.slice (some ⟨g2, 0, none⟩) (applyL p0 M1 x).length cap2] 24)) := bwT
     first | (refine hK _ _ ⟨hz2, ?_⟩; clear hK K) | refine ⟨hz2, ?_⟩
     clear hz2
     refine norm_K fun K hK => ?_
     change wpList _ _ _ [_, _, _] _ _
     go_wp2_with (at_builtin; refine appr_one rfl _ _ rfl w23 (w24.heap.size + 1) _ rfl uv us rfl (.slice (some ⟨g2, 0, none⟩) (applyL p0 M1 x).length cap2) 1 rfl rfl hoW.ou (by have := hoW.bx.lt; simp; omega) (by have := HU.out; omega) ?_; intro g3 cap3 w3 hown3 hgb3 hg3 hge3; have bx' := hoW.bx.bl hgb3 (Nat.lt_succ_self _); have bc1 := bx'.c1; have bf1 := bx'.f1)
     first | (refine hK _ _ ⟨rfl, ?_⟩; clear hK K) | refine ⟨rfl, ?_⟩
     have hbz : Below w24.heap.size w24 (w3.setCell ⟨w24.heap.size, 1, none⟩ (.slice (some ⟨g3, 0, none⟩) (us.length + 1) cap3)) := bwS ((show Below w24.heap.size w24 w23 from bwC hb bwT).trans (hgb3.mono (Nat.le_succ _))) (Nat.le_refl _) _
     have hz := hoW.row (hv2.more (by have := hoF.bx.lt; first | omega | (simp; omega))) hf hown3 hgb3 hg3
     go_wp2_with fail
     go_roundw
     case rel => exact ⟨k + 1, .slice (some ⟨g3, 0, none⟩) (us.length + 1) cap3, us ++ [.slice (some ⟨g2, 0, none⟩) (applyL p0 M1 x).length cap2], by omega, by go_num, by simp [HU.out], by rw [HT.out]; exact hz, hbz⟩
     case measure => simp [intOf]; omega
    ·obtain rfl : k = 3 := by omega
     have hn3 : ¬ 3 < X2.up.length := by rw [HUL.out]; omega
     have hn4 : decide ((3 : Int) < (X2.up.length : Int)) = false := by rw [HUL.out]; rfl
     have htk := take_all (xs := X2.up) (k := 3) (by rw [HUL.out]; exact Nat.le_refl _)
     rw [htk] at ho
     have HTK := Lib.hid htk; clear htk
     have hus : 0 < us.length := by have := HU.out; omega
     have hfr := frR_mk ho.rows ho.ou hus
     obtain ⟨gu, cu, rfl, _⟩ := World.ownsRow.form ho.ou hus
     have hH : FrH wr (w.heap.size + 1 + 1 + 1) (.agg #[.slice (some ⟨gd, 0, none⟩) X2.dg.length cd, .slice (some ⟨gu, 0, none⟩) us.length cu]) ⟨X2.dg, X2.up.map (applyL p0 M1)⟩ := by
      refine ⟨_, _, us, rfl, hv.more (by omega), hfr.more (by omega), fun y hy e => ?_⟩
      obtain ⟨g, hg1, hg2, _⟩ := ho.rows.mem hy
      rw [hg1] at e
      have e2 : g = gd := Option.some.inj e
      omega
     have bc0 := ho.bx.c0; have bc1 := ho.bx.c1
     have rc0 := hr.c0; have rc1 := hr.c1; have rf0 := hr.f0; have rf1 := hr.f1
     have hbe := bwC hbw hb
     have hz3_ : w24.heap.size <= wr.heap.size := hb.size
     go_wp2_with fail
     refine bodyPost_ret (v := .tuple #[.agg #[.slice (some ⟨gd, 0, none⟩) X2.dg.length cd, .slice (some ⟨gu, 0, none⟩) us.length cu], .int .i64 0]) (by simp [results, Tryz.results6, go_sem, rc0, rc1]) rfl ⟨_, rfl, .inr ?_, ?_⟩
     ·exact ((hH.set_ (by first | omega | simp <;> omega) _).set_ (by first | omega | simp <;> omega) _).more (by omega)
     ·exact bwS (bwS hbe (by first | omega | simp <;> omega) _) (by first | omega | simp <;> omega) _
set_option maxHeartbeats 8000000 in
set_option maxRecDepth 100000 in
theorem sMapEntries_c {p0 : Int} {x0 : Value} {st0 : List Int} {x1 : Value} {M1 : List (List Int)} {x2 : Value} {X2 : Her} {w : World} (hx0 : El w x0 st0) (hm0 : st0.length <= 1048576) (hx1 : Re w x1 M1) (hm1 : Msz M1) (hx2 : Hv w x2 X2) (hz2 : Hsz X2) :
  Calls Tryz.prog 7 #[.agg #[.int .i64 p0, x0], x1, x2] w fun e w' => ∃ v0, e = .returned (.tuple #[v0, .int .i64 (RMapEntries1 p0 st0 M1 X2)]) /\ OwH w' w.heap.size v0 (RMapEntries0 p0 st0 M1 X2) /\ Below w.heap.size w w' := by
 obtain ⟨a0, c0, rfl, _⟩ := id hx0.op
 obtain ⟨am, cm, rfl, _⟩ := id hx1
 obtain ⟨dv2, uv2, rfl, hd2_, hu2_⟩ := id hx2; obtain ⟨a2, c2, rfl, _⟩ := id hd2_.op; obtain ⟨b2, e2, rfl, _⟩ := id hu2_; clear hd2_ hu2_
 obtain ⟨W, hW⟩ : ∃ W, W = ((((w.alloc (.cells #[.int .i64 p0, .slice a0 st0.length c0] 26)).alloc (.cells #[.slice a2 X2.dg.length c2, .slice b2 X2.up.length e2] 29)).alloc (.cells #[.slice none 0 0, .slice none 0 0] 29)).alloc (.cells #[.slice a2 X2.dg.length c2, .slice b2 X2.up.length e2] 29)) := ⟨_, rfl⟩
 have hbW : Below w.heap.size w W := by rw [hW]; exact bwT
 have hx0 := hx0.below hbW
 have hx1 := hx1.below hbW
 have hx2 := hx2.below hbW
 have d00 : W.cell? ⟨w.heap.size, 0, none⟩ = some (.int .i64 p0) := by rw [hW]; simp [go_sem]
 have d01 : W.cell? ⟨w.heap.size, 1, none⟩ = some (.slice a0 st0.length c0) := by rw [hW]; simp [go_sem]
 have d20 : W.cell? ⟨w.heap.size + 1, 0, none⟩ = some (.slice a2 X2.dg.length c2) := by rw [hW]; simp [go_sem]
 have d21 : W.cell? ⟨w.heap.size + 1, 1, none⟩ = some (.slice b2 X2.up.length e2) := by rw [hW]; simp [go_sem]
 have hr : Bx W (w.heap.size + 1 + 1) (.slice none 0 0) (.slice none 0 0) := by rw [hW]; exact Bx.below (by unfold Bx; rw [show w.heap.size + 1 + 1 = ((w.alloc (.cells #[.int .i64 p0, .slice a0 st0.length c0] 26)).alloc (.cells #[.slice a2 X2.dg.length c2, .slice b2 X2.up.length e2] 29)).heap.size by simp]; exact heap_alloc_new _ _) bwT
 have hWs : W.heap.size = w.heap.size + 1 + 1 + 1 + 1 := by rw [hW]; simp
 have gl : Lh W (.slice (some ⟨w.heap.size + 1 + 1 + 1, 0, none⟩) 1 1) [X2] := Lh.one hx2 (by rw [hW]; simp [go_sem]) (by rw [hW]; simp [go_sem])
 have hcon := sl16_c (p := p0) hx0 hm0 gl (by intro X hX; simp at hX; subst hX; exact hz2) (by simp)
 have HWs := Lib.hid hWs; clear hWs
 rw [hW] at hcon
 by_cases h0 : chkH p0 st0 [X2] = 0
 case neg =>
  have e1 : RMapEntries1 p0 st0 M1 X2 = chkH p0 st0 [X2] := if_neg h0
  rw [show RMapEntries0 p0 st0 M1 X2 = ⟨[], []⟩ from if_neg (by rw [e1]; exact h0), e1]; clear e1
  obtain ⟨k, hk⟩ : ∃ k, k = chkH p0 st0 [X2] := ⟨_, rfl⟩
  rw [<- hk] at h0 hcon ⊢
  clear hk
  have hne : (k == 0) = false := by simpa using h0
  go_enter Tryz.func7, Tryz.ntmps7
  go_wp2_with fail
  refine hcon.mono ?_; rintro e w1 ⟨rfl, hb1⟩
  rw [<- hW] at hb1
  clear hW hcon
  have hr := hr.below hb1
  have rc0 := hr.c0; have rc1 := hr.c1; have rf0 := hr.f0; have rf1 := hr.f1
  go_wp2_with fail
  refine bodyPost_ret (v := .tuple #[.agg #[.slice none 0 0, .slice none 0 0], .int .i64 k]) (by simp [results, Tryz.results7, go_sem, rc0, rc1]) rfl ⟨_, rfl, .inl ⟨rfl, rfl⟩, ?_⟩
  exact bwS (bwS bwT (by first | omega | simp <;> omega) _) (by first | omega | simp <;> omega) _
 rw [h0] at hcon
 obtain ⟨hd, hall⟩ := chkH_pos h0
 have hX2 : isH p0 (sz st0.length) X2 = true := by simp at hall; exact hall
 clear hall
 have hp1 := hd.hp.lo; have hp2 := hd.hp.hi; have hsz := sz_le hd
 obtain ⟨z, hz⟩ : ∃ z, z = matB p0 (sz st0.length) M1 := ⟨_, rfl⟩
 have HZ := Lib.hid hz
 cases z with
 | false =>
  have e1 : RMapEntries1 p0 st0 M1 X2 = 2 := by unfold RMapEntries1; rw [if_pos h0, if_neg (by rw [<- hz]; decide)]
  rw [show RMapEntries0 p0 st0 M1 X2 = ⟨[], []⟩ from if_neg (by rw [e1]; decide), e1]; clear e1 hz h0
  go_enter Tryz.func7, Tryz.ntmps7
  go_wp2_with fail
  refine hcon.mono ?_; rintro e w1 ⟨rfl, hb1⟩
  rw [<- hW] at hb1
  clear hW hcon
  have hx0 := hx0.below hb1; have hx1 := hx1.below hb1; have hx2 := hx2.below hb1; have d00 := kept hb1 d00; have d01 := kept hb1 d01; have d20 := kept hb1 d20; have d21 := kept hb1 d21; have hr := hr.below hb1
  go_wp2_with fail
  refine (smatrix_c hd hx0 hx1 hm1.h3 hm1.h2).mono ?_; rintro e w22 ⟨rfl, hb22⟩
  have hx0 := hx0.below hb22; have hx1 := hx1.below hb22; have hx2 := hx2.below hb22; have d00 := kept hb22 d00; have d01 := kept hb22 d01; have d20 := kept hb22 d20; have d21 := kept hb22 d21; have hr := hr.below hb22
  rw [<- HZ.out]
  have rc0 := hr.c0; have rc1 := hr.c1; have rf0 := hr.f0; have rf1 := hr.f1
  go_wp2_with fail
  refine bodyPost_ret (v := .tuple #[.agg #[.slice none 0 0, .slice none 0 0], .int .i64 2]) (by simp [results, Tryz.results7, go_sem, rc0, rc1]) rfl ⟨_, rfl, .inl ⟨rfl, rfl⟩, ?_⟩
  exact bwS (bwS bwT (by first | omega | simp <;> omega) _) (by first | omega | simp <;> omega) _
 | true =>
  have hM : matB p0 (sz st0.length) M1 = true := hz.symm
  obtain ⟨y, hy⟩ : ∃ y, y = autB p0 st0 M1 := ⟨_, rfl⟩
  have HY := Lib.hid hy
  have HA := Lib.hid (aut_eq hd hM)
  cases y with
  | false =>
   have e1 : RMapEntries1 p0 st0 M1 X2 = 5 := by unfold RMapEntries1; rw [if_pos h0, if_pos hM, if_neg (by rw [<- hy]; decide)]
   rw [show RMapEntries0 p0 st0 M1 X2 = ⟨[], []⟩ from if_neg (by rw [e1]; decide), e1]; clear e1 hz h0 hy
   go_enter Tryz.func7, Tryz.ntmps7
   go_wp2_with fail
   refine hcon.mono ?_; rintro e w1 ⟨rfl, hb1⟩
   rw [<- hW] at hb1
   clear hW hcon
   have hx0 := hx0.below hb1; have hx1 := hx1.below hb1; have hx2 := hx2.below hb1; have d00 := kept hb1 d00; have d01 := kept hb1 d01; have d20 := kept hb1 d20; have d21 := kept hb1 d21; have hr := hr.below hb1
   go_wp2_with fail
   refine (smatrix_c hd hx0 hx1 hm1.h3 hm1.h2).mono ?_; rintro e w22 ⟨rfl, hb22⟩
   have hx0 := hx0.below hb22; have hx1 := hx1.below hb22; have hx2 := hx2.below hb22; have d00 := kept hb22 d00; have d01 := kept hb22 d01; have d20 := kept hb22 d20; have d21 := kept hb22 d21; have hr := hr.below hb22
   rw [<- HZ.out]
   go_wp2_with fail
   refine (saut_c hd hx0 hx1 hM).mono ?_; rintro e w23 ⟨rfl, hb23⟩
   have hx0 := hx0.below hb23; have hx1 := hx1.below hb23; have hx2 := hx2.below hb23; have d00 := kept hb23 d00; have d01 := kept hb23 d01; have d20 := kept hb23 d20; have d21 := kept hb23 d21; have hr := hr.below hb23
   rw [<- HY.out]
   have rc0 := hr.c0; have rc1 := hr.c1; have rf0 := hr.f0; have rf1 := hr.f1
   go_wp2_with fail
   refine bodyPost_ret (v := .tuple #[.agg #[.slice none 0 0, .slice none 0 0], .int .i64 5]) (by simp [results, Tryz.results7, go_sem, rc0, rc1]) rfl ⟨_, rfl, .inl ⟨rfl, rfl⟩, ?_⟩
   exact bwS (bwS bwT (by first | omega | simp <;> omega) _) (by first | omega | simp <;> omega) _
  | true =>
   have e1 : RMapEntries1 p0 st0 M1 X2 = 0 := by unfold RMapEntries1; rw [if_pos h0, if_pos hM, if_pos hy.symm]
   rw [show RMapEntries0 p0 st0 M1 X2 = mapH p0 M1 X2 from if_pos e1, e1]; clear e1 hz h0 hy
   have hpt := isH_parts hX2
   have hul : X2.up.length = 3 := hpt.2.2.1
   have hdl : X2.dg.length = 3 := hpt.1
   have hrow : ∀ xs ∈ X2.up, Ev p0 (sz st0.length) xs := hpt.2.2.2
   have hMw := (matB_iff.1 hM).2
   have hMl : M1.length <= 8 := by have := (matB_iff.1 hM).1; omega
   have hsz2 : 1 <= sz st0.length /\ sz st0.length <= 8 := hsz
   have HUL := Lib.hid hul; have HDL := Lib.hid hdl; have HMW := Lib.hid hMw
   clear hpt hul hdl hMw
   go_enter Tryz.func7, Tryz.ntmps7
   go_wp2_with fail
   refine hcon.mono ?_; rintro e w1 ⟨rfl, hb1⟩
   rw [<- hW] at hb1
   clear hW hcon
   have hx0 := hx0.below hb1; have hx1 := hx1.below hb1; have hx2 := hx2.below hb1; have d00 := kept hb1 d00; have d01 := kept hb1 d01; have d20 := kept hb1 d20; have d21 := kept hb1 d21; have hr := hr.below hb1
   go_wp2_with fail
   refine (smatrix_c hd hx0 hx1 hm1.h3 hm1.h2).mono ?_; rintro e w22 ⟨rfl, hb22⟩
   have hx0 := hx0.below hb22; have hx1 := hx1.below hb22; have hx2 := hx2.below hb22; have d00 := kept hb22 d00; have d01 := kept hb22 d01; have d20 := kept hb22 d20; have d21 := kept hb22 d21; have hr := hr.below hb22
   rw [<- HZ.out]
   go_wp2_with fail
   refine (saut_c hd hx0 hx1 hM).mono ?_; rintro e w23 ⟨rfl, hb23⟩
   have hx0 := hx0.below hb23; have hx1 := hx1.below hb23; have hx2 := hx2.below hb23; have d00 := kept hb23 d00; have d01 := kept hb23 d01; have d20 := kept hb23 d20; have d21 := kept hb23 d21; have hr := hr.below hb23
   rw [<- HY.out]
   obtain ⟨_, _, e_, hdg, hup⟩ := id hx2
   cases e_
   go_wp2_with fail
   refine (own_c hdg.sl (by rw [HDL.out]; omega) (by rw [HDL.out]; omega)).mono ?_; rintro e w24 ⟨v9, rfl, hv, hb24⟩
   have hx0 := hx0.below hb24; have hx1 := hx1.below hb24; have hx2 := hx2.below hb24; have d00 := kept hb24 d00; have d01 := kept hb24 d01; have d20 := kept hb24 d20; have d21 := kept hb24 d21; have hr := hr.below hb24; have hdg := hdg.below hb24; have hup := hup.below hb24
   obtain ⟨gd, cd, rfl, hvo⟩ := id hv
   have hz1_ : w.heap.size + 1 + 1 + 1 + 1 <= w1.heap.size := by have := hb1.size; have := HWs.out; omega
   have hz2_ : w1.heap.size <= w24.heap.size := (below_le bwT)
   have hz4_ : w1.heap.size <= w23.heap.size := (below_le bwT)
   have hbw := bwC hbW (bwC hb1 (show Below w1.heap.size w1 w24 from bwT))
   have hgl := hvo.lt
   obtain ⟨_, _, e_, _, _, hcell⟩ := id hup
   cases e_
   obtain ⟨bb, ob, rfl, hcel2⟩ := hcell.resolve_left (fun e => by have := HUL.out; rw [e] at this; simp at this)
   have HC := Lib.hid hcel2
   clear hcell hcel2 hbW hb1
   have hN0 : Bx (w24.alloc (.cells #[.slice (some ⟨gd, 0, none⟩) X2.dg.length cd, .slice none 0 0] 29)) w24.heap.size (.slice (some ⟨gd, 0, none⟩) X2.dg.length cd) (.slice none 0 0) := heap_alloc_new _ _
   have hO0 : OutU (w24.alloc (.cells #[.slice (some ⟨gd, 0, none⟩) X2.dg.length cd, .slice none 0 0] 29)) w24.heap.size (.slice (some ⟨gd, 0, none⟩) X2.dg.length cd) (.slice none 0 0) [] [] := ⟨hN0, OwV.nil _ _, RowsA.nil _ _⟩
   have hbA : Below w24.heap.size w24 (w24.alloc (.cells #[.slice (some ⟨gd, 0, none⟩) X2.dg.length cd, .slice none 0 0] 29)) := bwT
   have d21a := kept hbA d21
   clear hN0
   go_wp2_with fail
   clear d21a
   go_loopw [10] (fun i wr => ∃ (k : Nat) (uv : Value) (us : List Value), k <= 3 /\ i = .int .i64 k /\ us.length = k /\ OutU wr w24.heap.size (.slice (some ⟨gd, 0, none⟩) X2.dg.length cd) uv us ((X2.up.take k).map (applyL p0 M1)) /\ Below w24.heap.size w24 wr) (fun i _ => 3 - (intOf i).toNat)
   case atStart => exact ⟨0, _, [], by omega, rfl, rfl, hO0, hbA⟩
   case round =>
    clear hO0 hbA
    obtain ⟨k, uv, us, hk, rfl, hul, ho, hb⟩ := hrel
    have HU := Lib.hid hul; clear hul
    have hx0 := hx0.below hb; have hx1 := hx1.below hb; have d00 := kept hb d00; have d01 := kept hb d01; have d20 := kept hb d20; have d21 := kept hb d21; have hr := hr.below hb; have hv := hv.below hb
    by_cases hlt : k < 3
    ·have hltu : k < X2.up.length := by rw [HUL.out]; exact hlt
     obtain ⟨u, hcu, hE⟩ := HC.out k hltu
     have ht : X2.up.take (k + 1) = X2.up.take k ++ [X2.up[k]] := List.take_succ_eq_append_getElem hltu
     have hrw := hrow X2.up[k] (List.getElem_mem _)
     obtain ⟨x, hx_⟩ : ∃ x, x = X2.up[k] := ⟨_, rfl⟩
     rw [<- hx_] at hE ht hrw
     obtain ⟨ax, cx, rfl, _⟩ := id hE.op
     have hcu := kept hb hcu; have hE := hE.below hb
     have HT := Lib.hid (show (X2.up.take (k + 1)).map (applyL p0 M1) = (X2.up.take k).map (applyL p0 M1) ++ [applyL p0 M1 x] by rw [ht, List.map_append]; rfl)
     have bc1 := ho.bx.c1
     have HRW := Lib.hid hrw
     clear hx_ ht hrw
     go_wp2
     go_wp2_with fail
     refine region_flow [(false, [(0, 0), (1, 1), (2, 0), (3, 1), (4, 0), (5, 0), (6, 1), (7, 0), (8, 0), (9, 1), (10, 5)]), (false, [(11, 5)]), (false, [(12, 4), (13, 0), (14, 4)])] (by kernel_rfl) ?_
     refine norm_K fun K hK => ?_
     change wpList _ _ _ [_, _, _, _, _, _, _, _, _, _, _] _ _
     have hb21 : Below wr.heap.size wr wr.drew := bwT
     have hx0 := hx0.below hb21; have hx1 := hx1.below hb21; have d00 := kept hb21 d00; have d01 := kept hb21 d01; have d21 := kept hb21 d21; have hcu := kept hb21 hcu; have hr := hr.below hb21; have hE := hE.below hb21; have ho := ho.below hb21; have bc1 := kept hb21 bc1
     generalize wr.drew = wq at *
     have hoF := ho
     go_wp2_with fail
     refine (sapply_c (n := sz st0.length) (by omega) (by omega) hx1 HMW.out hE HRW.out (by omega) (by omega) (by omega)).mono ?_; rintro e w22 ⟨z1, rfl, hv2, hb22⟩
     have hx0 := hx0.below hb22; have hx1 := hx1.below hb22; have d00 := kept hb22 d00; have d01 := kept hb22 d01; have d21 := kept hb22 d21; have hcu := kept hb22 hcu; have hr := hr.below hb22; have hE := hE.below hb22; have ho := ho.below hb22; have bc1 := kept hb22 bc1
     go_wp2_with fail
     have hz0 : Below wq.heap.size wq w22 := bwT
     first | (refine hK _ _ ⟨hz0, ?_⟩; clear hK K) | refine ⟨hz0, ?_⟩
     clear hz0
     refine norm_K fun K hK => ?_
     change wpList _ _ _ [_] _ _
     have hf := hoF.rows.fresh hv2
     obtain ⟨g2, cap2, rfl, hv2o⟩ := id hv2
     have hoW := ho
     have hb23 : Below w22.heap.size w22 (w22.alloc (.cells #[.slice (some ⟨g2, 0, none⟩) (applyL p0 M1 x).length cap2] 24)) := bwT
     have hx0 := hx0.below hb23; have hx1 := hx1.below hb23; have d00 := kept hb23 d00; have d01 := kept hb23 d01; have d21 := kept hb23 d21; have hcu := kept hb23 hcu; have hr := hr.below hb23; have hE := hE.below hb23; have ho := ho.below hb23; have bc1 := kept hb23 bc1
     have x0 : (w22.alloc (.cells #[.slice (some ⟨g2, 0, none⟩) (applyL p0 M1 x).length cap2] 24)).cell? ⟨w22.heap.size, 0, none⟩ = some (.slice (some ⟨g2, 0, none⟩) (applyL p0 M1 x).length cap2) := by simp [go_sem]
     go_wp2_with fail
     have hz1 : Below wq.heap.size wq (w22.alloc (.cells #[.slice (some ⟨g2, 0, none⟩) (applyL p0 M1 x).length cap2] 24)) := bwT
     first | (refine hK _ _ ⟨hz1, ?_⟩; clear hK K) | refine ⟨hz1, ?_⟩
     clear hz1
     refine norm_K fun K hK => ?_
     change wpList _ _ _ [_, _, _] _ _
     go_wp2_with (at_builtin; refine appr_one rfl _ _ rfl w22 (w24.heap.size + 1) _ rfl uv us rfl (.slice (some ⟨g2, 0, none⟩) (applyL p0 M1 x).length cap2) 1 rfl rfl hoW.ou (by have := hoW.bx.lt; simp; omega) (by have := HU.out; omega) ?_; intro g3 cap3 w3 hown3 hgb3 hg3 hge3; have bx' := hoW.bx.bl hgb3 (Nat.lt_succ_self _); have bc1 := bx'.c1; have bf1 := bx'.f1)
     first | (refine hK _ _ ⟨rfl, ?_⟩; clear hK K) | refine ⟨rfl, ?_⟩
     have hbz : Below w24.heap.size w24 (w3.setCell ⟨w24.heap.size, 1, none⟩ (.slice (some ⟨g3, 0, none⟩) (us.length + 1) cap3)) := bwS ((show Below w24.heap.size w24 w22 from bwC hb bwT).trans (hgb3.mono (Nat.le_succ _))) (Nat.le_refl _) _
     have hz := hoW.row (hv2.more (by have := hoF.bx.lt; first | omega | (simp; omega))) hf hown3 hgb3 hg3
     go_wp2_with fail
     go_roundw
     case rel => exact ⟨k + 1, .slice (some ⟨g3, 0, none⟩) (us.length + 1) cap3, us ++ [.slice (some ⟨g2, 0, none⟩) (applyL p0 M1 x).length cap2], by omega, by go_num, by simp [HU.out], by rw [HT.out]; exact hz, hbz⟩
     case measure => simp [intOf]; omega
    ·obtain rfl : k = 3 := by omega
     have hn3 : ¬ 3 < X2.up.length := by rw [HUL.out]; omega
     have hn4 : decide ((3 : Int) < (X2.up.length : Int)) = false := by rw [HUL.out]; rfl
     have htk := take_all (xs := X2.up) (k := 3) (by rw [HUL.out]; exact Nat.le_refl _)
     rw [htk] at ho
     have HTK := Lib.hid htk; clear htk
     have hus : 0 < us.length := by have := HU.out; omega
     have hfr := frR_mk ho.rows ho.ou hus
     obtain ⟨gu, cu, rfl, _⟩ := World.ownsRow.form ho.ou hus
     have hH : FrH wr (w.heap.size + 1 + 1 + 1) (.agg #[.slice (some ⟨gd, 0, none⟩) X2.dg.length cd, .slice (some ⟨gu, 0, none⟩) us.length cu]) ⟨X2.dg, X2.up.map (applyL p0 M1)⟩ := by
      refine ⟨_, _, us, rfl, hv.more (by omega), hfr.more (by omega), fun y hy e => ?_⟩
      obtain ⟨g, hg1, hg2, _⟩ := ho.rows.mem hy
      rw [hg1] at e
      have e2 : g = gd := Option.some.inj e
      omega
     have bc0 := ho.bx.c0; have bc1 := ho.bx.c1
     have rc0 := hr.c0; have rc1 := hr.c1; have rf0 := hr.f0; have rf1 := hr.f1
     have hbe := bwC hbw hb
     have hz3_ : w24.heap.size <= wr.heap.size := hb.size
     go_wp2_with fail
     refine bodyPost_ret (v := .tuple #[.agg #[.slice (some ⟨gd, 0, none⟩) X2.dg.length cd, .slice (some ⟨gu, 0, none⟩) us.length cu], .int .i64 0]) (by simp [results, Tryz.results7, go_sem, rc0, rc1]) rfl ⟨_, rfl, .inr ?_, ?_⟩
     ·exact ((hH.set_ (by first | omega | simp <;> omega) _).set_ (by first | omega | simp <;> omega) _).more (by omega)
     ·exact bwS (bwS hbe (by first | omega | simp <;> omega) _) (by first | omega | simp <;> omega) _
end Go.Proofs.YtilgbekffbphgaaGreat
