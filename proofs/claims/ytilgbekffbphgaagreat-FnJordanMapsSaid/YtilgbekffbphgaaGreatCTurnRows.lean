import Derived.Test.YtilgbekffbphgaaGreatJaz
import Derived.Test.YtilgbekffbphgaaGreatJak
namespace Go.Proofs.YtilgbekffbphgaaGreat
open Go.RowKit
def tdgS (X : Her) (k : Nat) : Nat -> List Int
 | 0 => []
 | i + 1 => tdgS X k i ++ [X.d ((i + k) % 3)]
def tupS (X : Her) (k : Nat) : Nat -> List (List Int)
 | 0 => []
 | i + 1 => tupS X k i ++ [X.r ((i + k) % 3)]
theorem tdgS_len {X : Her} {k : Nat} : ∀ i, (tdgS X k i).length = i
 | 0 => rfl
 | i + 1 => by unfold tdgS; rw [List.length_append, tdgS_len i]; rfl
theorem tupS_len {X : Her} {k : Nat} : ∀ i, (tupS X k i).length = i
 | 0 => rfl
 | i + 1 => by unfold tupS; rw [List.length_append, tupS_len i]; rfl
def turnH (X : Her) (k : Nat) : Her := ⟨tdgS X k 3, tupS X k 3⟩
theorem turnH_is {p : Int} {n k : Nat} {X : Her} (hk : k < 3) (h : isH p n X = true) : isH p n (turnH X k) = true := by
 obtain ⟨a, b, c, u, v, t, rfl, h1, h2, h3, h4, h5, h6, eu, ev, et⟩ := isH_op h
 rcases (show k = 0 \/ k = 1 \/ k = 2 by omega) with rfl | rfl | rfl
 ·exact isH_mk ⟨h1, h2⟩ ⟨h3, h4⟩ ⟨h5, h6⟩ eu ev et
 ·exact isH_mk ⟨h3, h4⟩ ⟨h5, h6⟩ ⟨h1, h2⟩ ev et eu
 ·exact isH_mk ⟨h5, h6⟩ ⟨h1, h2⟩ ⟨h3, h4⟩ et eu ev
def RTurnRows1 (p0 : Int) (st0 : List Int) (X1 : Her) (n2 : Int) : Int := if chkH p0 st0 [X1] = 0 then (if inR n2 0 2 = true then 0 else 2) else chkH p0 st0 [X1]
def RTurnRows0 (p0 : Int) (st0 : List Int) (X1 : Her) (n2 : Int) : Her := if RTurnRows1 p0 st0 X1 n2 = 0 then turnH X1 n2.toNat else ⟨[], []⟩
set_option maxHeartbeats 2000000 in
set_option maxRecDepth 100000 in
theorem iTurnRows_c {p0 : Int} {x0 : Value} {st0 : List Int} {x1 : Value} {X1 : Her} {n2 : Int} {w : World} (hx0 : El w x0 st0) (hm0 : st0.length <= 1048576) (hx1 : Hv w x1 X1) (hz1 : Hsz X1) (lo2 : -9223372036854775808 <= n2) (hi2 : n2 <= 9223372036854775807) :
  Calls Tryz.prog 10 #[.agg #[.int .i64 p0, x0], x1, .int .i64 n2] w fun e w' => ∃ v0, e = .returned (.tuple #[v0, .int .i64 (RTurnRows1 p0 st0 X1 n2)]) /\ OwH w' w.heap.size v0 (RTurnRows0 p0 st0 X1 n2) /\ Below w.heap.size w w' := by
 obtain ⟨a0, c0, rfl, _⟩ := id hx0.op
 obtain ⟨dv1, uv1, rfl, hd1_, hu1_⟩ := id hx1; obtain ⟨a1, c1, rfl, _⟩ := id hd1_.op; obtain ⟨b1, e1, rfl, _⟩ := id hu1_; clear hd1_ hu1_
 obtain ⟨W, hW⟩ : ∃ W, W = ((((w.alloc (.cells #[.int .i64 p0, .slice a0 st0.length c0] 26)).alloc (.cells #[.slice a1 X1.dg.length c1, .slice b1 X1.up.length e1] 29)).alloc (.cells #[.slice none 0 0, .slice none 0 0] 29)).alloc (.cells #[.slice a1 X1.dg.length c1, .slice b1 X1.up.length e1] 29)) := ⟨_, rfl⟩
 have hbW : Below w.heap.size w W := by rw [hW]; exact bwT
 have hx0 := hx0.below hbW
 have hx1 := hx1.below hbW
 have d00 : W.cell? ⟨w.heap.size, 0, none⟩ = some (.int .i64 p0) := by rw [hW]; simp [go_sem]
 have d01 : W.cell? ⟨w.heap.size, 1, none⟩ = some (.slice a0 st0.length c0) := by rw [hW]; simp [go_sem]
 have d10 : W.cell? ⟨w.heap.size + 1, 0, none⟩ = some (.slice a1 X1.dg.length c1) := by rw [hW]; simp [go_sem]
 have d11 : W.cell? ⟨w.heap.size + 1, 1, none⟩ = some (.slice b1 X1.up.length e1) := by rw [hW]; simp [go_sem]
 have hr : Bx W (w.heap.size + 1 + 1) (.slice none 0 0) (.slice none 0 0) := by rw [hW]; exact Bx.below (by unfold Bx; rw [show w.heap.size + 1 + 1 = ((w.alloc (.cells #[.int .i64 p0, .slice a0 st0.length c0] 26)).alloc (.cells #[.slice a1 X1.dg.length c1, .slice b1 X1.up.length e1] 29)).heap.size by simp]; exact heap_alloc_new _ _) bwT
 have hWs : W.heap.size = w.heap.size + 1 + 1 + 1 + 1 := by rw [hW]; simp
 have gl : Lh W (.slice (some ⟨w.heap.size + 1 + 1 + 1, 0, none⟩) 1 1) [X1] := Lh.one hx1 (by rw [hW]; simp [go_sem]) (by rw [hW]; simp [go_sem])
 have hcon := chkh_c (p := p0) hx0 hm0 gl (by intro X hX; simp at hX; subst hX; exact hz1) (by simp)
 have HWs := Lib.hid hWs; clear hWs
 rw [hW] at hcon
 by_cases h0 : chkH p0 st0 [X1] = 0
 ·rw [h0] at hcon
  obtain ⟨hd, hall⟩ := chkH_pos h0
  have hX1 : isH p0 (sz st0.length) X1 = true := by simp at hall; exact hall
  clear hall
  have hp1 := hd.hp.lo; have hp2 := hd.hp.hi; have hsz := sz_le hd
  by_cases h2 : inR n2 0 2 = true
  ·have hb2 : 0 <= n2 /\ n2 <= 2 := by simpa [inR] using h2
   obtain ⟨m, rfl⟩ : ∃ m : Nat, n2 = (m : Int) := ⟨n2.toNat, by omega⟩
   have hm3 : m < 3 := by omega
   have e1 : RTurnRows1 p0 st0 X1 m = 0 := by unfold RTurnRows1; rw [if_pos h0, if_pos h2]
   rw [show RTurnRows0 p0 st0 X1 m = ⟨tdgS X1 m 3, tupS X1 m 3⟩ from if_pos e1, e1]
   clear e1
   obtain ⟨a1_, b1_, c1_, u1_, v1_, t1_, bd1, od1, cd1, bu1, ou1, cu1, r1_, s1_, q1_, rfl, e_, ba1, bb1, bc1_, eu1, ev1, et1, ca1, cb1, cc1, cr1, cs1, cq1, er1, es1, eq1, kd1, ku1⟩ := Hv.op3 hx1 hX1
   cases e_
   have LU := Lib.hid eu1.1; have LV := Lib.hid ev1.1; have LT := Lib.hid et1.1
   clear kd1 ku1
   go_enter Tryz.func10, Tryz.ntmps10
   go_wp2_with fail
   refine hcon.mono ?_; rintro e w1 ⟨rfl, hb1⟩
   rw [<- hW] at hb1
   clear hW hcon
   have hx0 := hx0.below hb1; have hx1 := hx1.below hb1; have d00 := kept hb1 d00; have d01 := kept hb1 d01; have d10 := kept hb1 d10; have d11 := kept hb1 d11; have hr := hr.below hb1; have ca1 := kept hb1 ca1; have cb1 := kept hb1 cb1; have cc1 := kept hb1 cc1; have cr1 := kept hb1 cr1; have cs1 := kept hb1 cs1; have cq1 := kept hb1 cq1; have er1 := er1.below hb1; have es1 := es1.below hb1; have eq1 := eq1.below hb1
   go_wp2_with fail
   refine (inRange_c).mono ?_; rintro e w22 ⟨rfl, rfl⟩
   have HN := Lib.hid (Nat.le_succ w1.heap.size); have HM := Lib.hid (Nat.le_refl w1.heap.size); have HM3 := Lib.hid hm3
   have d10_ := d10; have d11_ := d11; have hr_ := hr
   have HSEL := Lib.hid (show ∀ J, J < 3 -> ∃ (z : Int) (u : List Int) (ru : Value), Her.d ⟨[a1_, b1_, c1_], [u1_, v1_, t1_]⟩ J = z /\ Her.r ⟨[a1_, b1_, c1_], [u1_, v1_, t1_]⟩ J = u /\ w1.cell? ⟨bd1, od1 + J, none⟩ = some (.int .i64 z) /\ w1.cell? ⟨bu1, ou1 + J, none⟩ = some ru /\ El w1 ru u /\ u.length = sz st0.length by
    intro J hJ
    rcases (show J = 0 \/ J = 1 \/ J = 2 by omega) with rfl | rfl | rfl
    ·exact ⟨a1_, u1_, r1_, rfl, rfl, ca1, cr1, er1, eu1.1⟩
    ·exact ⟨b1_, v1_, s1_, rfl, rfl, cb1, cs1, es1, ev1.1⟩
    ·exact ⟨c1_, t1_, q1_, rfl, rfl, cc1, cq1, eq1, et1.1⟩)
   go_wp2
   go_loopw [24] (fun i wr => ∃ (k : Nat) (dv uv : Value) (us : List Value), k <= 3 /\ i = .int .i64 k /\ Out wr w1.heap.size dv uv us (tdgS ⟨[a1_, b1_, c1_], [u1_, v1_, t1_]⟩ m k) (tupS ⟨[a1_, b1_, c1_], [u1_, v1_, t1_]⟩ m k) /\ Below w1.heap.size w1 wr) (fun i _ => 3 - (intOf i).toNat)
   case atStart => exact ⟨0, _, _, [], by omega, rfl, Out.start (heap_alloc_new w1 _), bwT⟩
   case round =>
    obtain ⟨k, dv, uv, us, hk, rfl, ho, hb⟩ := hrel
    have HD := Lib.hid (tdgS_len (X := ⟨[a1_, b1_, c1_], [u1_, v1_, t1_]⟩) (k := m) k)
    have HU := Lib.hid (ho.ul.trans (tupS_len k))
    by_cases hlt : k < 3
    ·have hlti : (k : Int) < 3 := by omega
     obtain ⟨z, u, ru, hzd, hur, cz_, cu__, eu__, hul⟩ := HSEL.out ((k + m) % 3) (Nat.mod_lt _ (by decide))
     have hu8 := hsz.2
     have e1_ : tdgS ⟨[a1_, b1_, c1_], [u1_, v1_, t1_]⟩ m (k + 1) = tdgS ⟨[a1_, b1_, c1_], [u1_, v1_, t1_]⟩ m k ++ [z] := by show tdgS ⟨[a1_, b1_, c1_], [u1_, v1_, t1_]⟩ m k ++ [Her.d ⟨[a1_, b1_, c1_], [u1_, v1_, t1_]⟩ ((k + m) % 3)] = _; rw [hzd]
     have e2_ : tupS ⟨[a1_, b1_, c1_], [u1_, v1_, t1_]⟩ m (k + 1) = tupS ⟨[a1_, b1_, c1_], [u1_, v1_, t1_]⟩ m k ++ [u] := by show tupS ⟨[a1_, b1_, c1_], [u1_, v1_, t1_]⟩ m k ++ [Her.r ⟨[a1_, b1_, c1_], [u1_, v1_, t1_]⟩ ((k + m) % 3)] = _; rw [hur]
     have HE := Lib.hid (And.intro e1_ e2_); have HL := Lib.hid hul
     clear e1_ e2_ hul hzd hur
     obtain ⟨D_, hD⟩ : ∃ D, D = tdgS ⟨[a1_, b1_, c1_], [u1_, v1_, t1_]⟩ m k := ⟨_, rfl⟩; obtain ⟨U_, hU⟩ : ∃ U, U = tupS ⟨[a1_, b1_, c1_], [u1_, v1_, t1_]⟩ m k := ⟨_, rfl⟩
     rw [<- hD] at ho HD HE; rw [<- hU] at ho HE; clear hD hU
     have d10 := kept hb d10_; have d11 := kept hb d11_; have cz := kept hb cz_; have cu_ := kept hb cu__; have eu_ := eu__.below hb
     have bc0 := ho.bx.c0
     go_wp2
     go_wp2_with fail
     refine region_flow [(false, [(0, 0), (1, 1), (2, 0), (3, 1), (4, 0), (5, 0), (6, 0), (7, 0), (8, 0), (9, 1), (10, 5)]), (false, [(11, 4), (12, 0), (13, 4)])] (by kernel_rfl) ?_
     refine norm_K fun K hK => ?_
     change wpList _ _ _ [_, _, _, _, _, _, _, _, _, _, _] _ _
     have hb21 : Below wr.heap.size wr wr.drew := bwT
     have d10 := kept hb21 d10; have d11 := kept hb21 d11; have cz := kept hb21 cz; have cu_ := kept hb21 cu_; have eu_ := eu_.below hb21; have ho := ho.below hb21; have bc0 := kept hb21 bc0
     generalize wr.drew = wq at *
     have hoW := ho
     go_wp2_with fail
     have hb22 : Below wq.heap.size wq (wq.alloc (.cells #[.int .i64 z] 2)) := bwT
     have d10 := kept hb22 d10; have d11 := kept hb22 d11; have cz := kept hb22 cz; have cu_ := kept hb22 cu_; have eu_ := eu_.below hb22; have ho := ho.below hb22; have bc0 := kept hb22 bc0
     have hl : OwnI (wq.alloc (.cells #[.int .i64 z] 2)) wq.heap.size wq.heap.size [z].length [z].length [z] := OwnI.lit (Nat.le_refl _) [z] (by simp)
     go_wp2_with fail
     have hz0 : Below wq.heap.size wq (wq.alloc (.cells #[.int .i64 z] 2)) := bwT
     first | (refine hK _ _ ⟨hz0, ?_⟩; clear hK K) | refine ⟨hz0, ?_⟩
     clear hz0
     refine norm_K fun K hK => ?_
     change wpList _ _ _ [_, _, _] _ _
     go_wp2_with (at_builtin; refine appn_one rfl _ _ rfl wq (w1.heap.size + 1) _ rfl dv (D_) rfl z 1 rfl hoW.od (by have := hoW.bx.lt; simp; omega) (by have := HD.out; omega) ?_; intro g' cap' w' hown' hgb' hg' hge; have bx' := hoW.bx.bl hgb' (Nat.lt_succ_self _); have bc0 := bx'.c0; have bf0 := bx'.f0)
     first | (refine hK _ _ ⟨rfl, ?_⟩; clear hK K) | refine ⟨rfl, ?_⟩
     have hba : Below w1.heap.size w1 (w'.setCell ⟨w1.heap.size, 0, none⟩ (.slice (some ⟨g', 0, none⟩) ((D_).length + 1) cap')) := bwS ((show Below w1.heap.size w1 wq from bwC hb bwT).trans (hgb'.mono HN.out)) HM.out _
     have ho := hoW.num (nv := .slice (some ⟨g', 0, none⟩) ((D_).length + 1) cap') rfl hown' hgb' hg' hge
     clear bc0 bf0 bx' hown'
     obtain ⟨wa, hwa⟩ : ∃ x, x = w'.setCell ⟨w1.heap.size, 0, none⟩ (.slice (some ⟨g', 0, none⟩) ((D_).length + 1) cap') := ⟨_, rfl⟩
     rw [<- hwa] at hba ho ⊢; clear hwa
     have d10 := kept hba d10_; have d11 := kept hba d11_; have cz := kept hba cz_; have cu_ := kept hba cu__; have eu_ := eu__.below hba
     have bc1 := ho.bx.c1
     go_wp2
     go_wp2_with fail
     refine region_flow [(false, [(0, 0), (1, 1), (2, 0), (3, 1), (4, 0), (5, 0), (6, 0), (7, 0), (8, 0), (9, 1), (10, 5)]), (false, [(11, 5)]), (false, [(12, 4), (13, 0), (14, 4)])] (by kernel_rfl) ?_
     refine norm_K fun K hK => ?_
     change wpList _ _ _ [_, _, _, _, _, _, _, _, _, _, _] _ _
     have hb21 : Below wa.heap.size wa wa.drew := bwT
     have d10 := kept hb21 d10; have d11 := kept hb21 d11; have cz := kept hb21 cz; have cu_ := kept hb21 cu_; have eu_ := eu_.below hb21; have ho := ho.below hb21; have bc1 := kept hb21 bc1
     generalize wa.drew = wq at *
     have hoF := ho
     have hoA := ho
     go_wp2_with fail
     refine (clone_c eu_.sl (by rw [HL.out]; omega) (by rw [HL.out]; omega)).mono ?_; rintro e w22 ⟨z1, rfl, hv2, hb22⟩
     have d10 := kept hb22 d10; have d11 := kept hb22 d11; have cz := kept hb22 cz; have cu_ := kept hb22 cu_; have eu_ := eu_.below hb22; have ho := ho.below hb22; have bc1 := kept hb22 bc1
     go_wp2_with fail
     have hz0 : Below wq.heap.size wq w22 := bwT
     first | (refine hK _ _ ⟨hz0, ?_⟩; clear hK K) | refine ⟨hz0, ?_⟩
     clear hz0
     refine norm_K fun K hK => ?_
     change wpList _ _ _ [_] _ _
     have hf := hoF.fresh hv2
     obtain ⟨g2, cap2, rfl, hv2o⟩ := id hv2
     have hoW := ho
     have hb23 : Below w22.heap.size w22 (w22.alloc (.cells #[.slice (some ⟨g2, 0, none⟩) (u).length cap2] 24)) := bwT
     have d10 := kept hb23 d10; have d11 := kept hb23 d11; have cz := kept hb23 cz; have cu_ := kept hb23 cu_; have eu_ := eu_.below hb23; have ho := ho.below hb23; have bc1 := kept hb23 bc1
     have x0 : (w22.alloc (.cells #[.slice (some ⟨g2, 0, none⟩) (u).length cap2] 24)).cell? ⟨w22.heap.size, 0, none⟩ = some (.slice (some ⟨g2, 0, none⟩) (u).length cap2) := by simp [go_sem]
     go_wp2_with fail
     have hz1 : Below wq.heap.size wq (w22.alloc (.cells #[.slice (some ⟨g2, 0, none⟩) (u).length cap2] 24)) := bwT
     first | (refine hK _ _ ⟨hz1, ?_⟩; clear hK K) | refine ⟨hz1, ?_⟩
     clear hz1
     refine norm_K fun K hK => ?_
     change wpList _ _ _ [_, _, _] _ _
     go_wp2_with (at_builtin; refine appr_one rfl _ _ rfl w22 (w1.heap.size + 1) _ rfl uv us rfl (.slice (some ⟨g2, 0, none⟩) (u).length cap2) 1 rfl rfl hoW.ou (by have := hoW.bx.lt; simp; omega) (by have := HU.out; omega) ?_; intro g3 cap3 w3 hown3 hgb3 hg3 hge3; have bx' := hoW.bx.bl hgb3 (Nat.lt_succ_self _); have bc1 := bx'.c1; have bf1 := bx'.f1)
     first | (refine hK _ _ ⟨rfl, ?_⟩; clear hK K) | refine ⟨rfl, ?_⟩
     have hbz : Below w1.heap.size w1 (w3.setCell ⟨w1.heap.size, 1, none⟩ (.slice (some ⟨g3, 0, none⟩) (us.length + 1) cap3)) := bwS ((show Below w1.heap.size w1 w22 from bwC hba bwT).trans (hgb3.mono HN.out)) HM.out _
     have hz := hoW.row (hv2.more (by have := hoA.bx.lt; first | omega | (simp; omega))) hf.1 hf.2 hown3 hgb3 hg3
     go_wp2_with fail
     go_roundw
     case rel => exact ⟨k + 1, _, _, _, by omega, by go_num, by rw [HE.out.1, HE.out.2]; exact hz, hbz⟩
     case measure => simp [intOf]; omega
    ·obtain rfl : k = 3 := by omega
     have hr := hr_.below hb
     have hfr := ho.frh (by have := HD.out; omega) (by have := HU.out; omega)
     obtain ⟨gd, cd, rfl, _⟩ := ho.od.fr (by have := HD.out; omega)
     obtain ⟨gu, cu, rfl, _⟩ := World.ownsRow.form ho.ou (by have := HU.out; omega)
     have bc0 := ho.bx.c0; have bc1 := ho.bx.c1
     have rc0 := hr.c0; have rc1 := hr.c1; have rf0 := hr.f0; have rf1 := hr.f1
     have hbe := bwC (show Below w.heap.size w w1 from bwT) hb
     have hz1_ : w.heap.size + 1 + 1 + 1 + 1 <= w1.heap.size := by have := hb1.size; have := HWs.out; omega
     go_wp2_with fail
     refine bodyPost_ret (v := .tuple #[.agg #[.slice (some ⟨gd, 0, none⟩) (tdgS ⟨[a1_, b1_, c1_], [u1_, v1_, t1_]⟩ m 3).length cd, .slice (some ⟨gu, 0, none⟩) us.length cu], .int .i64 0]) (by simp [results, Tryz.results10, go_sem, rc0, rc1]) rfl ⟨_, rfl, .inr ?_, ?_⟩
     ·exact ((hfr.set_ (by first | omega | simp <;> omega) _).set_ (by first | omega | simp <;> omega) _).more (by omega)
     ·exact bwS (bwS hbe (by first | omega | simp <;> omega) _) (by first | omega | simp <;> omega) _
  ·have h3 : inR n2 0 2 = false := by simpa using h2
   have e1 : RTurnRows1 p0 st0 X1 n2 = 2 := by unfold RTurnRows1; rw [if_pos h0, if_neg h2]
   rw [show RTurnRows0 p0 st0 X1 n2 = ⟨[], []⟩ from if_neg (by rw [e1]; decide), e1]
   clear e1
   go_enter Tryz.func10, Tryz.ntmps10
   go_wp2_with fail
   refine hcon.mono ?_; rintro e w1 ⟨rfl, hb1⟩
   rw [<- hW] at hb1
   clear hW hcon
   have hx0 := hx0.below hb1; have hx1 := hx1.below hb1; have d00 := kept hb1 d00; have d01 := kept hb1 d01; have d10 := kept hb1 d10; have d11 := kept hb1 d11; have hr := hr.below hb1
   go_wp2_with fail
   refine (inRange_c).mono ?_; rintro e w22 ⟨rfl, rfl⟩
   have rc0 := hr.c0; have rc1 := hr.c1; have rf0 := hr.f0; have rf1 := hr.f1
   go_wp2_with fail
   refine bodyPost_ret (v := .tuple #[.agg #[.slice none 0 0, .slice none 0 0], .int .i64 2]) (by simp [results, Tryz.results10, go_sem, rc0, rc1]) rfl ⟨_, rfl, .inl ⟨rfl, rfl⟩, ?_⟩
   exact bwS (bwS bwT (by first | omega | simp <;> omega) _) (by first | omega | simp <;> omega) _
 ·have e1 : RTurnRows1 p0 st0 X1 n2 = chkH p0 st0 [X1] := by first | (unfold RTurnRows1; rw [if_neg h0]; done) | rfl
  rw [show RTurnRows0 p0 st0 X1 n2 = ⟨[], []⟩ from if_neg (by rw [e1]; exact h0), e1]; clear e1
  obtain ⟨k, hk⟩ : ∃ k, k = chkH p0 st0 [X1] := ⟨_, rfl⟩
  rw [<- hk] at h0 hcon ⊢
  clear hk
  have hne : (k == 0) = false := by simpa using h0
  go_enter Tryz.func10, Tryz.ntmps10
  go_wp2_with fail
  refine hcon.mono ?_; rintro e w1 ⟨rfl, hb1⟩
  rw [<- hW] at hb1
  clear hW hcon
  have hr := hr.below hb1
  have rc0 := hr.c0; have rc1 := hr.c1; have rf0 := hr.f0; have rf1 := hr.f1
  go_wp2_with fail
  refine bodyPost_ret (v := .tuple #[.agg #[.slice none 0 0, .slice none 0 0], .int .i64 k]) (by simp [results, Tryz.results10, go_sem, rc0, rc1]) rfl ⟨_, rfl, .inl ⟨rfl, rfl⟩, ?_⟩
  exact bwS (bwS bwT (by first | omega | simp <;> omega) _) (by first | omega | simp <;> omega) _
set_option maxHeartbeats 2000000 in
set_option maxRecDepth 100000 in
theorem sTurnRows_c {p0 : Int} {x0 : Value} {st0 : List Int} {x1 : Value} {X1 : Her} {n2 : Int} {w : World} (hx0 : El w x0 st0) (hm0 : st0.length <= 1048576) (hx1 : Hv w x1 X1) (hz1 : Hsz X1) (lo2 : -9223372036854775808 <= n2) (hi2 : n2 <= 9223372036854775807) :
  Calls Tryz.prog 11 #[.agg #[.int .i64 p0, x0], x1, .int .i64 n2] w fun e w' => ∃ v0, e = .returned (.tuple #[v0, .int .i64 (RTurnRows1 p0 st0 X1 n2)]) /\ OwH w' w.heap.size v0 (RTurnRows0 p0 st0 X1 n2) /\ Below w.heap.size w w' := by
 obtain ⟨a0, c0, rfl, _⟩ := id hx0.op
 obtain ⟨dv1, uv1, rfl, hd1_, hu1_⟩ := id hx1; obtain ⟨a1, c1, rfl, _⟩ := id hd1_.op; obtain ⟨b1, e1, rfl, _⟩ := id hu1_; clear hd1_ hu1_
 obtain ⟨W, hW⟩ : ∃ W, W = ((((w.alloc (.cells #[.int .i64 p0, .slice a0 st0.length c0] 26)).alloc (.cells #[.slice a1 X1.dg.length c1, .slice b1 X1.up.length e1] 29)).alloc (.cells #[.slice none 0 0, .slice none 0 0] 29)).alloc (.cells #[.slice a1 X1.dg.length c1, .slice b1 X1.up.length e1] 29)) := ⟨_, rfl⟩
 have hbW : Below w.heap.size w W := by rw [hW]; exact bwT
 have hx0 := hx0.below hbW
 have hx1 := hx1.below hbW
 have d00 : W.cell? ⟨w.heap.size, 0, none⟩ = some (.int .i64 p0) := by rw [hW]; simp [go_sem]
 have d01 : W.cell? ⟨w.heap.size, 1, none⟩ = some (.slice a0 st0.length c0) := by rw [hW]; simp [go_sem]
 have d10 : W.cell? ⟨w.heap.size + 1, 0, none⟩ = some (.slice a1 X1.dg.length c1) := by rw [hW]; simp [go_sem]
 have d11 : W.cell? ⟨w.heap.size + 1, 1, none⟩ = some (.slice b1 X1.up.length e1) := by rw [hW]; simp [go_sem]
 have hr : Bx W (w.heap.size + 1 + 1) (.slice none 0 0) (.slice none 0 0) := by rw [hW]; exact Bx.below (by unfold Bx; rw [show w.heap.size + 1 + 1 = ((w.alloc (.cells #[.int .i64 p0, .slice a0 st0.length c0] 26)).alloc (.cells #[.slice a1 X1.dg.length c1, .slice b1 X1.up.length e1] 29)).heap.size by simp]; exact heap_alloc_new _ _) bwT
 have hWs : W.heap.size = w.heap.size + 1 + 1 + 1 + 1 := by rw [hW]; simp
 have gl : Lh W (.slice (some ⟨w.heap.size + 1 + 1 + 1, 0, none⟩) 1 1) [X1] := Lh.one hx1 (by rw [hW]; simp [go_sem]) (by rw [hW]; simp [go_sem])
 have hcon := sl16_c (p := p0) hx0 hm0 gl (by intro X hX; simp at hX; subst hX; exact hz1) (by simp)
 have HWs := Lib.hid hWs; clear hWs
 rw [hW] at hcon
 by_cases h0 : chkH p0 st0 [X1] = 0
 ·rw [h0] at hcon
  obtain ⟨hd, hall⟩ := chkH_pos h0
  have hX1 : isH p0 (sz st0.length) X1 = true := by simp at hall; exact hall
  clear hall
  have hp1 := hd.hp.lo; have hp2 := hd.hp.hi; have hsz := sz_le hd
  by_cases h2 : inR n2 0 2 = true
  ·have hb2 : 0 <= n2 /\ n2 <= 2 := by simpa [inR] using h2
   obtain ⟨m, rfl⟩ : ∃ m : Nat, n2 = (m : Int) := ⟨n2.toNat, by omega⟩
   have hm3 : m < 3 := by omega
   have e1 : RTurnRows1 p0 st0 X1 m = 0 := by unfold RTurnRows1; rw [if_pos h0, if_pos h2]
   rw [show RTurnRows0 p0 st0 X1 m = ⟨tdgS X1 m 3, tupS X1 m 3⟩ from if_pos e1, e1]
   clear e1
   obtain ⟨a1_, b1_, c1_, u1_, v1_, t1_, bd1, od1, cd1, bu1, ou1, cu1, r1_, s1_, q1_, rfl, e_, ba1, bb1, bc1_, eu1, ev1, et1, ca1, cb1, cc1, cr1, cs1, cq1, er1, es1, eq1, kd1, ku1⟩ := Hv.op3 hx1 hX1
   cases e_
   have LU := Lib.hid eu1.1; have LV := Lib.hid ev1.1; have LT := Lib.hid et1.1
   clear kd1 ku1
   go_enter Tryz.func11, Tryz.ntmps11
   go_wp2_with fail
   refine hcon.mono ?_; rintro e w1 ⟨rfl, hb1⟩
   rw [<- hW] at hb1
   clear hW hcon
   have hx0 := hx0.below hb1; have hx1 := hx1.below hb1; have d00 := kept hb1 d00; have d01 := kept hb1 d01; have d10 := kept hb1 d10; have d11 := kept hb1 d11; have hr := hr.below hb1; have ca1 := kept hb1 ca1; have cb1 := kept hb1 cb1; have cc1 := kept hb1 cc1; have cr1 := kept hb1 cr1; have cs1 := kept hb1 cs1; have cq1 := kept hb1 cq1; have er1 := er1.below hb1; have es1 := es1.below hb1; have eq1 := eq1.below hb1
   go_wp2_with fail
   refine (sin_c).mono ?_; rintro e w22 ⟨rfl, rfl⟩
   have HN := Lib.hid (Nat.le_succ w1.heap.size); have HM := Lib.hid (Nat.le_refl w1.heap.size); have HM3 := Lib.hid hm3
   have d10_ := d10; have d11_ := d11; have hr_ := hr
   have HSEL := Lib.hid (show ∀ J, J < 3 -> ∃ (z : Int) (u : List Int) (ru : Value), Her.d ⟨[a1_, b1_, c1_], [u1_, v1_, t1_]⟩ J = z /\ Her.r ⟨[a1_, b1_, c1_], [u1_, v1_, t1_]⟩ J = u /\ w1.cell? ⟨bd1, od1 + J, none⟩ = some (.int .i64 z) /\ w1.cell? ⟨bu1, ou1 + J, none⟩ = some ru /\ El w1 ru u /\ u.length = sz st0.length by
    intro J hJ
    rcases (show J = 0 \/ J = 1 \/ J = 2 by omega) with rfl | rfl | rfl
    ·exact ⟨a1_, u1_, r1_, rfl, rfl, ca1, cr1, er1, eu1.1⟩
    ·exact ⟨b1_, v1_, s1_, rfl, rfl, cb1, cs1, es1, ev1.1⟩
    ·exact ⟨c1_, t1_, q1_, rfl, rfl, cc1, cq1, eq1, et1.1⟩)
   go_wp2
   go_loopw [10] (fun i wr => ∃ (k : Nat) (dv uv : Value) (us : List Value), k <= 3 /\ i = .int .i64 k /\ Out wr w1.heap.size dv uv us (tdgS ⟨[a1_, b1_, c1_], [u1_, v1_, t1_]⟩ m k) (tupS ⟨[a1_, b1_, c1_], [u1_, v1_, t1_]⟩ m k) /\ Below w1.heap.size w1 wr) (fun i _ => 3 - (intOf i).toNat)
   case atStart => exact ⟨0, _, _, [], by omega, rfl, Out.start (heap_alloc_new w1 _), bwT⟩
   case round =>
    obtain ⟨k, dv, uv, us, hk, rfl, ho, hb⟩ := hrel
    have HD := Lib.hid (tdgS_len (X := ⟨[a1_, b1_, c1_], [u1_, v1_, t1_]⟩) (k := m) k)
    have HU := Lib.hid (ho.ul.trans (tupS_len k))
    by_cases hlt : k < 3
    ·have hlti : (k : Int) < 3 := by omega
     obtain ⟨z, u, ru, hzd, hur, cz_, cu__, eu__, hul⟩ := HSEL.out ((k + m) % 3) (Nat.mod_lt _ (by decide))
     have hu8 := hsz.2
     have e1_ : tdgS ⟨[a1_, b1_, c1_], [u1_, v1_, t1_]⟩ m (k + 1) = tdgS ⟨[a1_, b1_, c1_], [u1_, v1_, t1_]⟩ m k ++ [z] := by show tdgS ⟨[a1_, b1_, c1_], [u1_, v1_, t1_]⟩ m k ++ [Her.d ⟨[a1_, b1_, c1_], [u1_, v1_, t1_]⟩ ((k + m) % 3)] = _; rw [hzd]
     have e2_ : tupS ⟨[a1_, b1_, c1_], [u1_, v1_, t1_]⟩ m (k + 1) = tupS ⟨[a1_, b1_, c1_], [u1_, v1_, t1_]⟩ m k ++ [u] := by show tupS ⟨[a1_, b1_, c1_], [u1_, v1_, t1_]⟩ m k ++ [Her.r ⟨[a1_, b1_, c1_], [u1_, v1_, t1_]⟩ ((k + m) % 3)] = _; rw [hur]
     have HE := Lib.hid (And.intro e1_ e2_); have HL := Lib.hid hul
     clear e1_ e2_ hul hzd hur
     obtain ⟨D_, hD⟩ : ∃ D, D = tdgS ⟨[a1_, b1_, c1_], [u1_, v1_, t1_]⟩ m k := ⟨_, rfl⟩; obtain ⟨U_, hU⟩ : ∃ U, U = tupS ⟨[a1_, b1_, c1_], [u1_, v1_, t1_]⟩ m k := ⟨_, rfl⟩
     rw [<- hD] at ho HD HE; rw [<- hU] at ho HE; clear hD hU
     have d10 := kept hb d10_; have d11 := kept hb d11_; have cz := kept hb cz_; have cu_ := kept hb cu__; have eu_ := eu__.below hb
     have bc0 := ho.bx.c0
     go_wp2
     go_wp2_with fail
     refine region_flow [(false, [(0, 0), (1, 1), (2, 0), (3, 1), (4, 0), (5, 0), (6, 0), (7, 0), (8, 0), (9, 1), (10, 5)]), (false, [(11, 4), (12, 0), (13, 4)])] (by kernel_rfl) ?_
     refine norm_K fun K hK => ?_
     change wpList _ _ _ [_, _, _, _, _, _, _, _, _, _, _] _ _
     have hb21 : Below wr.heap.size wr wr.drew := bwT
     have d10 := kept hb21 d10; have d11 := kept hb21 d11; have cz := kept hb21 cz; have cu_ := kept hb21 cu_; have eu_ := eu_.below hb21; have ho := ho.below hb21; have bc0 := kept hb21 bc0
     generalize wr.drew = wq at *
     have hoW := ho
     go_wp2_with fail
     have hb22 : Below wq.heap.size wq (wq.alloc (.cells #[.int .i64 z] 2)) := bwT
     have d10 := kept hb22 d10; have d11 := kept hb22 d11; have cz := kept hb22 cz; have cu_ := kept hb22 cu_; have eu_ := eu_.below hb22; have ho := ho.below hb22; have bc0 := kept hb22 bc0
     have hl : OwnI (wq.alloc (.cells #[.int .i64 z] 2)) wq.heap.size wq.heap.size [z].length [z].length [z] := OwnI.lit (Nat.le_refl _) [z] (by simp)
     go_wp2_with fail
     have hz0 : Below wq.heap.size wq (wq.alloc (.cells #[.int .i64 z] 2)) := bwT
     first | (refine hK _ _ ⟨hz0, ?_⟩; clear hK K) | refine ⟨hz0, ?_⟩
     clear hz0
     refine norm_K fun K hK => ?_
     change wpList _ _ _ [_, _, _] _ _
     go_wp2_with (at_builtin; refine appn_one rfl _ _ rfl wq (w1.heap.size + 1) _ rfl dv (D_) rfl z 1 rfl hoW.od (by have := hoW.bx.lt; simp; omega) (by have := HD.out; omega) ?_; intro g' cap' w' hown' hgb' hg' hge; have bx' := hoW.bx.bl hgb' (Nat.lt_succ_self _); have bc0 := bx'.c0; have bf0 := bx'.f0)
     first | (refine hK _ _ ⟨rfl, ?_⟩; clear hK K) | refine ⟨rfl, ?_⟩
     have hba : Below w1.heap.size w1 (w'.setCell ⟨w1.heap.size, 0, none⟩ (.slice (some ⟨g', 0, none⟩) ((D_).length + 1) cap')) := bwS ((show Below w1.heap.size w1 wq from bwC hb bwT).trans (hgb'.mono HN.out)) HM.out _
     have ho := hoW.num (nv := .slice (some ⟨g', 0, none⟩) ((D_).length + 1) cap') rfl hown' hgb' hg' hge
     clear bc0 bf0 bx' hown'
     obtain ⟨wa, hwa⟩ : ∃ x, x = w'.setCell ⟨w1.heap.size, 0, none⟩ (.slice (some ⟨g', 0, none⟩) ((D_).length + 1) cap') := ⟨_, rfl⟩
     rw [<- hwa] at hba ho ⊢; clear hwa
     have d10 := kept hba d10_; have d11 := kept hba d11_; have cz := kept hba cz_; have cu_ := kept hba cu__; have eu_ := eu__.below hba
     have bc1 := ho.bx.c1
     go_wp2
     go_wp2_with fail
     refine region_flow [(false, [(0, 0), (1, 1), (2, 0), (3, 1), (4, 0), (5, 0), (6, 0), (7, 0), (8, 0), (9, 1), (10, 5)]), (false, [(11, 5)]), (false, [(12, 4), (13, 0), (14, 4)])] (by kernel_rfl) ?_
     refine norm_K fun K hK => ?_
     change wpList _ _ _ [_, _, _, _, _, _, _, _, _, _, _] _ _
     have hb21 : Below wa.heap.size wa wa.drew := bwT
     have d10 := kept hb21 d10; have d11 := kept hb21 d11; have cz := kept hb21 cz; have cu_ := kept hb21 cu_; have eu_ := eu_.below hb21; have ho := ho.below hb21; have bc1 := kept hb21 bc1
     generalize wa.drew = wq at *
     have hoF := ho
     have hoA := ho
     go_wp2_with fail
     refine (own_c eu_.sl (by rw [HL.out]; omega) (by rw [HL.out]; omega)).mono ?_; rintro e w22 ⟨z1, rfl, hv2, hb22⟩
     have d10 := kept hb22 d10; have d11 := kept hb22 d11; have cz := kept hb22 cz; have cu_ := kept hb22 cu_; have eu_ := eu_.below hb22; have ho := ho.below hb22; have bc1 := kept hb22 bc1
     go_wp2_with fail
     have hz0 : Below wq.heap.size wq w22 := bwT
     first | (refine hK _ _ ⟨hz0, ?_⟩; clear hK K) | refine ⟨hz0, ?_⟩
     clear hz0
     refine norm_K fun K hK => ?_
     change wpList _ _ _ [_] _ _
     have hf := hoF.fresh hv2
     obtain ⟨g2, cap2, rfl, hv2o⟩ := id hv2
     have hoW := ho
     have hb23 : Below w22.heap.size w22 (w22.alloc (.cells #[.slice (some ⟨g2, 0, none⟩) (u).length cap2] 24)) := bwT
     have d10 := kept hb23 d10; have d11 := kept hb23 d11; have cz := kept hb23 cz; have cu_ := kept hb23 cu_; have eu_ := eu_.below hb23; have ho := ho.below hb23; have bc1 := kept hb23 bc1
     have x0 : (w22.alloc (.cells #[.slice (some ⟨g2, 0, none⟩) (u).length cap2] 24)).cell? ⟨w22.heap.size, 0, none⟩ = some (.slice (some ⟨g2, 0, none⟩) (u).length cap2) := by simp [go_sem]
     go_wp2_with fail
     have hz1 : Below wq.heap.size wq (w22.alloc (.cells #[.slice (some ⟨g2, 0, none⟩) (u).length cap2] 24)) := bwT
     first | (refine hK _ _ ⟨hz1, ?_⟩; clear hK K) | refine ⟨hz1, ?_⟩
     clear hz1
     refine norm_K fun K hK => ?_
     change wpList _ _ _ [_, _, _] _ _
     go_wp2_with (at_builtin; refine appr_one rfl _ _ rfl w22 (w1.heap.size + 1) _ rfl uv us rfl (.slice (some ⟨g2, 0, none⟩) (u).length cap2) 1 rfl rfl hoW.ou (by have := hoW.bx.lt; simp; omega) (by have := HU.out; omega) ?_; intro g3 cap3 w3 hown3 hgb3 hg3 hge3; have bx' := hoW.bx.bl hgb3 (Nat.lt_succ_self _); have bc1 := bx'.c1; have bf1 := bx'.f1)
     first | (refine hK _ _ ⟨rfl, ?_⟩; clear hK K) | refine ⟨rfl, ?_⟩
     have hbz : Below w1.heap.size w1 (w3.setCell ⟨w1.heap.size, 1, none⟩ (.slice (some ⟨g3, 0, none⟩) (us.length + 1) cap3)) := bwS ((show Below w1.heap.size w1 w22 from bwC hba bwT).trans (hgb3.mono HN.out)) HM.out _
     have hz := hoW.row (hv2.more (by have := hoA.bx.lt; first | omega | (simp; omega))) hf.1 hf.2 hown3 hgb3 hg3
     go_wp2_with fail
     go_roundw
     case rel => exact ⟨k + 1, _, _, _, by omega, by go_num, by rw [HE.out.1, HE.out.2]; exact hz, hbz⟩
     case measure => simp [intOf]; omega
    ·obtain rfl : k = 3 := by omega
     have hr := hr_.below hb
     have hfr := ho.frh (by have := HD.out; omega) (by have := HU.out; omega)
     obtain ⟨gd, cd, rfl, _⟩ := ho.od.fr (by have := HD.out; omega)
     obtain ⟨gu, cu, rfl, _⟩ := World.ownsRow.form ho.ou (by have := HU.out; omega)
     have bc0 := ho.bx.c0; have bc1 := ho.bx.c1
     have rc0 := hr.c0; have rc1 := hr.c1; have rf0 := hr.f0; have rf1 := hr.f1
     have hbe := bwC (show Below w.heap.size w w1 from bwT) hb
     have hz1_ : w.heap.size + 1 + 1 + 1 + 1 <= w1.heap.size := by have := hb1.size; have := HWs.out; omega
     go_wp2_with fail
     refine bodyPost_ret (v := .tuple #[.agg #[.slice (some ⟨gd, 0, none⟩) (tdgS ⟨[a1_, b1_, c1_], [u1_, v1_, t1_]⟩ m 3).length cd, .slice (some ⟨gu, 0, none⟩) us.length cu], .int .i64 0]) (by simp [results, Tryz.results11, go_sem, rc0, rc1]) rfl ⟨_, rfl, .inr ?_, ?_⟩
     ·exact ((hfr.set_ (by first | omega | simp <;> omega) _).set_ (by first | omega | simp <;> omega) _).more (by omega)
     ·exact bwS (bwS hbe (by first | omega | simp <;> omega) _) (by first | omega | simp <;> omega) _
  ·have h3 : inR n2 0 2 = false := by simpa using h2
   have e1 : RTurnRows1 p0 st0 X1 n2 = 2 := by unfold RTurnRows1; rw [if_pos h0, if_neg h2]
   rw [show RTurnRows0 p0 st0 X1 n2 = ⟨[], []⟩ from if_neg (by rw [e1]; decide), e1]
   clear e1
   go_enter Tryz.func11, Tryz.ntmps11
   go_wp2_with fail
   refine hcon.mono ?_; rintro e w1 ⟨rfl, hb1⟩
   rw [<- hW] at hb1
   clear hW hcon
   have hx0 := hx0.below hb1; have hx1 := hx1.below hb1; have d00 := kept hb1 d00; have d01 := kept hb1 d01; have d10 := kept hb1 d10; have d11 := kept hb1 d11; have hr := hr.below hb1
   go_wp2_with fail
   refine (sin_c).mono ?_; rintro e w22 ⟨rfl, rfl⟩
   have rc0 := hr.c0; have rc1 := hr.c1; have rf0 := hr.f0; have rf1 := hr.f1
   go_wp2_with fail
   refine bodyPost_ret (v := .tuple #[.agg #[.slice none 0 0, .slice none 0 0], .int .i64 2]) (by simp [results, Tryz.results11, go_sem, rc0, rc1]) rfl ⟨_, rfl, .inl ⟨rfl, rfl⟩, ?_⟩
   exact bwS (bwS bwT (by first | omega | simp <;> omega) _) (by first | omega | simp <;> omega) _
 ·have e1 : RTurnRows1 p0 st0 X1 n2 = chkH p0 st0 [X1] := by first | (unfold RTurnRows1; rw [if_neg h0]; done) | rfl
  rw [show RTurnRows0 p0 st0 X1 n2 = ⟨[], []⟩ from if_neg (by rw [e1]; exact h0), e1]; clear e1
  obtain ⟨k, hk⟩ : ∃ k, k = chkH p0 st0 [X1] := ⟨_, rfl⟩
  rw [<- hk] at h0 hcon ⊢
  clear hk
  have hne : (k == 0) = false := by simpa using h0
  go_enter Tryz.func11, Tryz.ntmps11
  go_wp2_with fail
  refine hcon.mono ?_; rintro e w1 ⟨rfl, hb1⟩
  rw [<- hW] at hb1
  clear hW hcon
  have hr := hr.below hb1
  have rc0 := hr.c0; have rc1 := hr.c1; have rf0 := hr.f0; have rf1 := hr.f1
  go_wp2_with fail
  refine bodyPost_ret (v := .tuple #[.agg #[.slice none 0 0, .slice none 0 0], .int .i64 k]) (by simp [results, Tryz.results11, go_sem, rc0, rc1]) rfl ⟨_, rfl, .inl ⟨rfl, rfl⟩, ?_⟩
  exact bwS (bwS bwT (by first | omega | simp <;> omega) _) (by first | omega | simp <;> omega) _
end Go.Proofs.YtilgbekffbphgaaGreat
