/-
  TurnRows: the program's and the reference's.
-/
import Derived.Test.YtbfonghjlghncaaHcT
import Derived.Test.YtbfonghjlghncaaLawE
import Derived.Test.YtbfonghjlghncaaMarkI
namespace Go.Proofs.Ytbfonghjlghncaa
open Go.RowKit

def tdgS (X : Her) (k : Nat) : Nat → List Int
  | 0 => []
  | i + 1 => tdgS X k i ++ [X.d ((i + k) % 3)]
def tupS (X : Her) (k : Nat) : Nat → List (List Int)
  | 0 => []
  | i + 1 => tupS X k i ++ [X.r ((i + k) % 3)]
theorem tdgS_len {X : Her} {k : Nat} : ∀ i, (tdgS X k i).length = i
  | 0 => rfl
  | i + 1 => by unfold tdgS; rw [List.length_append, tdgS_len i]; rfl
theorem tupS_len {X : Her} {k : Nat} : ∀ i, (tupS X k i).length = i
  | 0 => rfl
  | i + 1 => by unfold tupS; rw [List.length_append, tupS_len i]; rfl
def turnH (X : Her) (k : Nat) : Her := ⟨tdgS X k 3, tupS X k 3⟩
theorem turnH_is {p : Int} {n k : Nat} {X : Her} (hk : k < 3) (h : isH p n X = true) : isH p n (turnH X k) = true := by
  obtain ⟨a, b, c, u, v, t, rfl, h1, h2, h3, h4, h5, h6, eu, ev, et⟩ := isH_op h
  rcases (show k = 0 ∨ k = 1 ∨ k = 2 by omega) with rfl | rfl | rfl
  · exact isH_mk ⟨h1, h2⟩ ⟨h3, h4⟩ ⟨h5, h6⟩ eu ev et
  · exact isH_mk ⟨h3, h4⟩ ⟨h5, h6⟩ ⟨h1, h2⟩ ev et eu
  · exact isH_mk ⟨h5, h6⟩ ⟨h1, h2⟩ ⟨h3, h4⟩ et eu ev
def RTurnRows1 (p0 : Int) (st0 : List Int) (X1 : Her) (n2 : Int) : Int := if chkH p0 st0 [X1] = 0 then (if inR n2 0 2 = true then 0 else 2) else chkH p0 st0 [X1]
def RTurnRows0 (p0 : Int) (st0 : List Int) (X1 : Her) (n2 : Int) : Her := if RTurnRows1 p0 st0 X1 n2 = 0 then turnH X1 n2.toNat else ⟨[], []⟩
set_option maxHeartbeats 2000000 in
set_option maxRecDepth 100000 in
theorem iTurnRows_c {p0 : Int} {x0 : Value} {st0 : List Int} {x1 : Value} {X1 : Her} {n2 : Int} {w : World} (hx0 : El w x0 st0) (hm0 : st0.length ≤ 1048576) (hx1 : Hv w x1 X1) (hz1 : Hsz X1) (lo2 : -9223372036854775808 ≤ n2) (hi2 : n2 ≤ 9223372036854775807) :
    Calls Try.prog 33 #[.agg #[.int .i64 p0, x0], x1, .int .i64 n2] w fun e w' => ∃ v0, e = .returned (.tuple #[v0, .int .i64 (RTurnRows1 p0 st0 X1 n2)]) ∧ OwH w' w.heap.size v0 (RTurnRows0 p0 st0 X1 n2) ∧ Below w.heap.size w w' := by
  obtain ⟨a0, c0, rfl, _⟩ := id hx0.op
  obtain ⟨dv1, uv1, rfl, hd1_, hu1_⟩ := id hx1; obtain ⟨a1, c1, rfl, _⟩ := id hd1_.op; obtain ⟨b1, e1, rfl, _⟩ := id hu1_; clear hd1_ hu1_
  obtain ⟨W, hW⟩ : ∃ W, W = ((((w.alloc (.cells #[.int .i64 p0, .slice a0 st0.length c0] 28)).alloc (.cells #[.slice a1 X1.dg.length c1, .slice b1 X1.up.length e1] 38)).alloc (.cells #[.slice none 0 0, .slice none 0 0] 38)).alloc (.cells #[.slice a1 X1.dg.length c1, .slice b1 X1.up.length e1] 38)) := ⟨_, rfl⟩
  have hbW : Below w.heap.size w W := by rw [hW]; exact (by repeat (first | exact Below.refl _ _ | apply blw_drew | apply blw_alloc | (refine blw_set ?_ (by first | omega | (simp; done) | (simp; omega)) _) | refine below_chain ?_ (by assumption)))
  have hx0 := hx0.below hbW
  have hx1 := hx1.below hbW
  have d00 : W.cell? ⟨w.heap.size, 0, none⟩ = some (.int .i64 p0) := by rw [hW]; simp [go_sem]
  have d01 : W.cell? ⟨w.heap.size, 1, none⟩ = some (.slice a0 st0.length c0) := by rw [hW]; simp [go_sem]
  have d10 : W.cell? ⟨w.heap.size + 1, 0, none⟩ = some (.slice a1 X1.dg.length c1) := by rw [hW]; simp [go_sem]
  have d11 : W.cell? ⟨w.heap.size + 1, 1, none⟩ = some (.slice b1 X1.up.length e1) := by rw [hW]; simp [go_sem]
  have hr : Bx W (w.heap.size + 1 + 1) (.slice none 0 0) (.slice none 0 0) := by rw [hW]; exact Bx.below (by unfold Bx; rw [show w.heap.size + 1 + 1 = ((w.alloc (.cells #[.int .i64 p0, .slice a0 st0.length c0] 28)).alloc (.cells #[.slice a1 X1.dg.length c1, .slice b1 X1.up.length e1] 38)).heap.size by simp]; exact heap_alloc_new _ _) (by repeat (first | exact Below.refl _ _ | apply blw_drew | apply blw_alloc | (refine blw_set ?_ (by first | omega | (simp; done) | (simp; omega)) _) | refine below_chain ?_ (by assumption)))
  have hWs : W.heap.size = w.heap.size + 1 + 1 + 1 + 1 := by rw [hW]; simp
  have gl : Lh W (.slice (some ⟨w.heap.size + 1 + 1 + 1, 0, none⟩) 1 1) [X1] := Lh.one hx1 (by rw [hW]; simp [go_sem]) (by rw [hW]; simp [go_sem])
  have hcon := chkh_c (p := p0) hx0 hm0 gl (by intro X hX; simp at hX; subst hX; exact hz1) (by simp)
  have HWs := Lib.hid hWs; clear hWs
  rw [hW] at hcon
  by_cases h0 : chkH p0 st0 [X1] = 0
  · rw [h0] at hcon
    obtain ⟨hd, hall⟩ := chkH_pos h0
    have hX1 : isH p0 (sz st0.length) X1 = true := by simp at hall; exact hall
    clear hall
    have hp1 := hd.hp.lo; have hp2 := hd.hp.hi; have hsz := sz_le hd
    by_cases h2 : inR n2 0 2 = true
    · have hb2 : 0 ≤ n2 ∧ n2 ≤ 2 := by simpa [inR] using h2
      rcases (show n2 = 0 ∨ n2 = 1 ∨ n2 = 2 by omega) with rfl | rfl | rfl
      · have h2 : inR 0 0 2 = true := by decide
        have e1 : RTurnRows1 p0 st0 X1 0 = 0 := by unfold RTurnRows1; rw [if_pos h0]; rfl
        rw [show RTurnRows0 p0 st0 X1 0 = ⟨tdgS X1 0 3, tupS X1 0 3⟩ from if_pos e1, e1]
        clear e1
        obtain ⟨a1_, b1_, c1_, u1_, v1_, t1_, bd1, od1, cd1, bu1, ou1, cu1, r1_, s1_, q1_, rfl, e_, ba1, bb1, bc1_, eu1, ev1, et1, ca1, cb1, cc1, cr1, cs1, cq1, er1, es1, eq1, kd1, ku1⟩ := Hv.op3 hx1 hX1
        cases e_
        have LU := Lib.hid eu1.1; have LV := Lib.hid ev1.1; have LT := Lib.hid et1.1
        clear kd1 ku1
        go_enter Try.func33, Try.ntmps33
        go_wp2_with fail
        refine hcon.mono ?_; rintro e w1 ⟨rfl, hb1⟩
        rw [← hW] at hb1
        clear hW hcon
        have hx0 := hx0.below hb1; have hx1 := hx1.below hb1; have d00 := kept hb1 d00; have d01 := kept hb1 d01; have d10 := kept hb1 d10; have d11 := kept hb1 d11; have hr := hr.below hb1; have ca1 := kept hb1 ca1; have cb1 := kept hb1 cb1; have cc1 := kept hb1 cc1; have cr1 := kept hb1 cr1; have cs1 := kept hb1 cs1; have cq1 := kept hb1 cq1; have er1 := er1.below hb1; have es1 := es1.below hb1; have eq1 := eq1.below hb1
        go_wp2_with fail
        refine (inRange_c).mono ?_; rintro e w22 ⟨rfl, rfl⟩
        have HN := Lib.hid (Nat.le_succ w1.heap.size); have HM := Lib.hid (Nat.le_refl w1.heap.size)
        have hx0_ := hx0
        have hx1_ := hx1
        have d00_ := d00
        have d01_ := d01
        have d10_ := d10
        have d11_ := d11
        have hr_ := hr
        have ca1_ := ca1
        have cb1_ := cb1
        have cc1_ := cc1
        have cr1_ := cr1
        have cs1_ := cs1
        have cq1_ := cq1
        have er1_ := er1
        have es1_ := es1
        have eq1_ := eq1
        go_wp2
        go_loopw [24] (fun i wr => ∃ (k : Nat) (dv uv : Value) (us : List Value), k ≤ 3 ∧ i = .int .i64 k ∧ Out wr w1.heap.size dv uv us (tdgS ⟨[a1_, b1_, c1_], [u1_, v1_, t1_]⟩ 0 k) (tupS ⟨[a1_, b1_, c1_], [u1_, v1_, t1_]⟩ 0 k) ∧ Below w1.heap.size w1 wr) (fun i _ => 3 - (intOf i).toNat)
        case atStart => exact ⟨0, _, _, [], by omega, rfl, Out.start (heap_alloc_new w1 _), (by repeat (first | exact Below.refl _ _ | apply blw_drew | apply blw_alloc | (refine blw_set ?_ (by first | omega | (simp; done) | (simp; omega)) _) | refine below_chain ?_ (by assumption)))⟩
        case round =>
          obtain ⟨k, dv, uv, us, hk, rfl, ho, hb⟩ := hrel
          have HD := Lib.hid (tdgS_len (X := ⟨[a1_, b1_, c1_], [u1_, v1_, t1_]⟩) (k := 0) k)
          have HU := Lib.hid (ho.ul.trans (tupS_len k))
          rcases (show k = 0 ∨ k = 1 ∨ k = 2 ∨ k = 3 by omega) with rfl | rfl | rfl | rfl
          · skip
            have hx0 := hx0_.below hb
            have hx1 := hx1_.below hb
            have d00 := kept hb d00_
            have d01 := kept hb d01_
            have d10 := kept hb d10_
            have d11 := kept hb d11_
            have hr := hr_.below hb
            have ca1 := kept hb ca1_
            have cb1 := kept hb cb1_
            have cc1 := kept hb cc1_
            have cr1 := kept hb cr1_
            have cs1 := kept hb cs1_
            have cq1 := kept hb cq1_
            have er1 := er1_.below hb
            have es1 := es1_.below hb
            have eq1 := eq1_.below hb
            have bc0 := ho.bx.c0
            go_wp2
            go_wp2_with fail
            refine region_flow [(false, [(0, 0), (1, 1), (2, 0), (3, 1), (4, 0), (5, 0), (6, 0), (7, 0), (8, 0), (9, 1), (10, 5)]), (false, [(11, 4), (12, 0), (13, 4)])] (by kernel_rfl) ?_
            refine norm_K fun K hK => ?_
            change wpList _ _ _ [_, _, _, _, _, _, _, _, _, _, _] _ _
            have hb21 : Below wr.heap.size wr wr.drew := (by repeat (first | exact Below.refl _ _ | apply blw_drew | apply blw_alloc | (refine blw_set ?_ (by first | omega | (simp; done) | (simp; omega)) _) | refine below_chain ?_ (by assumption)))
            have hx0 := hx0.below hb21; have hx1 := hx1.below hb21; have d00 := kept hb21 d00; have d01 := kept hb21 d01; have d10 := kept hb21 d10; have d11 := kept hb21 d11; have hr := hr.below hb21; have ca1 := kept hb21 ca1; have cb1 := kept hb21 cb1; have cc1 := kept hb21 cc1; have cr1 := kept hb21 cr1; have cs1 := kept hb21 cs1; have cq1 := kept hb21 cq1; have er1 := er1.below hb21; have es1 := es1.below hb21; have eq1 := eq1.below hb21; have ho := ho.below hb21; have bc0 := kept hb21 bc0
            generalize wr.drew = wq at *
            have hoW := ho
            go_wp2_with fail
            have hb22 : Below wq.heap.size wq (wq.alloc (.cells #[.int .i64 a1_] 2)) := (by repeat (first | exact Below.refl _ _ | apply blw_drew | apply blw_alloc | (refine blw_set ?_ (by first | omega | (simp; done) | (simp; omega)) _) | refine below_chain ?_ (by assumption)))
            have hx0 := hx0.below hb22; have hx1 := hx1.below hb22; have d00 := kept hb22 d00; have d01 := kept hb22 d01; have d10 := kept hb22 d10; have d11 := kept hb22 d11; have hr := hr.below hb22; have ca1 := kept hb22 ca1; have cb1 := kept hb22 cb1; have cc1 := kept hb22 cc1; have cr1 := kept hb22 cr1; have cs1 := kept hb22 cs1; have cq1 := kept hb22 cq1; have er1 := er1.below hb22; have es1 := es1.below hb22; have eq1 := eq1.below hb22; have ho := ho.below hb22; have bc0 := kept hb22 bc0
            have hl : OwnI (wq.alloc (.cells #[.int .i64 a1_] 2)) wq.heap.size wq.heap.size [a1_].length [a1_].length [a1_] := OwnI.lit (Nat.le_refl _) [a1_] (by simp)
            go_wp2_with fail
            have hz0 : Below wq.heap.size wq (wq.alloc (.cells #[.int .i64 a1_] 2)) := (by repeat (first | exact Below.refl _ _ | apply blw_drew | apply blw_alloc | (refine blw_set ?_ (by first | omega | (simp; done) | (simp; omega)) _) | refine below_chain ?_ (by assumption)))
            first | (refine hK _ _ ⟨hz0, ?_⟩; clear hK K) | refine ⟨hz0, ?_⟩
            clear hz0
            refine norm_K fun K hK => ?_
            change wpList _ _ _ [_, _, _] _ _
            go_wp2_with (at_builtin; refine appn_one rfl _ _ rfl wq (w1.heap.size + 1) _ rfl dv (tdgS ⟨[a1_, b1_, c1_], [u1_, v1_, t1_]⟩ 0 0) rfl a1_ 1 rfl hoW.od (by have := hoW.bx.lt; simp; omega) (by have := HD.out; omega) ?_; intro g' cap' w' hown' hgb' hg' hge; have bx' := hoW.bx.bl hgb' (Nat.lt_succ_self _); have bc0 := bx'.c0; have bf0 := bx'.f0)
            first | (refine hK _ _ ⟨rfl, ?_⟩; clear hK K) | refine ⟨rfl, ?_⟩
            have hba : Below w1.heap.size w1 (w'.setCell ⟨w1.heap.size, 0, none⟩ (.slice (some ⟨g', 0, none⟩) ((tdgS ⟨[a1_, b1_, c1_], [u1_, v1_, t1_]⟩ 0 0).length + 1) cap')) := blw_set ((show Below w1.heap.size w1 wq from below_chain hb (by repeat (first | exact Below.refl _ _ | apply blw_drew | apply blw_alloc | (refine blw_set ?_ (by first | omega | (simp; done) | (simp; omega)) _) | refine below_chain ?_ (by assumption)))).trans (hgb'.mono HN.out)) HM.out _
            have ho := hoW.num (nv := .slice (some ⟨g', 0, none⟩) ((tdgS ⟨[a1_, b1_, c1_], [u1_, v1_, t1_]⟩ 0 0).length + 1) cap') rfl hown' hgb' hg' hge
            clear bc0 bf0 bx' hown'
            obtain ⟨wa, hwa⟩ : ∃ x, x = w'.setCell ⟨w1.heap.size, 0, none⟩ (.slice (some ⟨g', 0, none⟩) ((tdgS ⟨[a1_, b1_, c1_], [u1_, v1_, t1_]⟩ 0 0).length + 1) cap') := ⟨_, rfl⟩
            rw [← hwa] at hba ho ⊢; clear hwa
            have hx0 := hx0_.below hba
            have hx1 := hx1_.below hba
            have d00 := kept hba d00_
            have d01 := kept hba d01_
            have d10 := kept hba d10_
            have d11 := kept hba d11_
            have hr := hr_.below hba
            have ca1 := kept hba ca1_
            have cb1 := kept hba cb1_
            have cc1 := kept hba cc1_
            have cr1 := kept hba cr1_
            have cs1 := kept hba cs1_
            have cq1 := kept hba cq1_
            have er1 := er1_.below hba
            have es1 := es1_.below hba
            have eq1 := eq1_.below hba
            have bc1 := ho.bx.c1
            go_wp2
            go_wp2_with fail
            refine region_flow [(false, [(0, 0), (1, 1), (2, 0), (3, 1), (4, 0), (5, 0), (6, 0), (7, 0), (8, 0), (9, 1), (10, 5)]), (false, [(11, 5)]), (false, [(12, 4), (13, 0), (14, 4)])] (by kernel_rfl) ?_
            refine norm_K fun K hK => ?_
            change wpList _ _ _ [_, _, _, _, _, _, _, _, _, _, _] _ _
            have hb21 : Below wa.heap.size wa wa.drew := (by repeat (first | exact Below.refl _ _ | apply blw_drew | apply blw_alloc | (refine blw_set ?_ (by first | omega | (simp; done) | (simp; omega)) _) | refine below_chain ?_ (by assumption)))
            have hx0 := hx0.below hb21; have hx1 := hx1.below hb21; have d00 := kept hb21 d00; have d01 := kept hb21 d01; have d10 := kept hb21 d10; have d11 := kept hb21 d11; have hr := hr.below hb21; have ca1 := kept hb21 ca1; have cb1 := kept hb21 cb1; have cc1 := kept hb21 cc1; have cr1 := kept hb21 cr1; have cs1 := kept hb21 cs1; have cq1 := kept hb21 cq1; have er1 := er1.below hb21; have es1 := es1.below hb21; have eq1 := eq1.below hb21; have ho := ho.below hb21; have bc1 := kept hb21 bc1
            generalize wa.drew = wq at *
            have hoF := ho
            have hoA := ho
            go_wp2_with fail
            refine (clone_c er1.sl (by rw [LU.out]; omega) (by rw [LU.out]; omega)).mono ?_; rintro e w22 ⟨z1, rfl, hv2, hb22⟩
            have hx0 := hx0.below hb22; have hx1 := hx1.below hb22; have d00 := kept hb22 d00; have d01 := kept hb22 d01; have d10 := kept hb22 d10; have d11 := kept hb22 d11; have hr := hr.below hb22; have ca1 := kept hb22 ca1; have cb1 := kept hb22 cb1; have cc1 := kept hb22 cc1; have cr1 := kept hb22 cr1; have cs1 := kept hb22 cs1; have cq1 := kept hb22 cq1; have er1 := er1.below hb22; have es1 := es1.below hb22; have eq1 := eq1.below hb22; have ho := ho.below hb22; have bc1 := kept hb22 bc1
            go_wp2_with fail
            have hz0 : Below wq.heap.size wq w22 := (by repeat (first | exact Below.refl _ _ | apply blw_drew | apply blw_alloc | (refine blw_set ?_ (by first | omega | (simp; done) | (simp; omega)) _) | refine below_chain ?_ (by assumption)))
            first | (refine hK _ _ ⟨hz0, ?_⟩; clear hK K) | refine ⟨hz0, ?_⟩
            clear hz0
            refine norm_K fun K hK => ?_
            change wpList _ _ _ [_] _ _
            have hf := hoF.fresh hv2
            obtain ⟨g2, cap2, rfl, hv2o⟩ := id hv2
            have hoW := ho
            have hb23 : Below w22.heap.size w22 (w22.alloc (.cells #[.slice (some ⟨g2, 0, none⟩) (u1_).length cap2] 22)) := (by repeat (first | exact Below.refl _ _ | apply blw_drew | apply blw_alloc | (refine blw_set ?_ (by first | omega | (simp; done) | (simp; omega)) _) | refine below_chain ?_ (by assumption)))
            have hx0 := hx0.below hb23; have hx1 := hx1.below hb23; have d00 := kept hb23 d00; have d01 := kept hb23 d01; have d10 := kept hb23 d10; have d11 := kept hb23 d11; have hr := hr.below hb23; have ca1 := kept hb23 ca1; have cb1 := kept hb23 cb1; have cc1 := kept hb23 cc1; have cr1 := kept hb23 cr1; have cs1 := kept hb23 cs1; have cq1 := kept hb23 cq1; have er1 := er1.below hb23; have es1 := es1.below hb23; have eq1 := eq1.below hb23; have ho := ho.below hb23; have bc1 := kept hb23 bc1
            have x0 : (w22.alloc (.cells #[.slice (some ⟨g2, 0, none⟩) (u1_).length cap2] 22)).cell? ⟨w22.heap.size, 0, none⟩ = some (.slice (some ⟨g2, 0, none⟩) (u1_).length cap2) := by simp [go_sem]
            go_wp2_with fail
            have hz1 : Below wq.heap.size wq (w22.alloc (.cells #[.slice (some ⟨g2, 0, none⟩) (u1_).length cap2] 22)) := (by repeat (first | exact Below.refl _ _ | apply blw_drew | apply blw_alloc | (refine blw_set ?_ (by first | omega | (simp; done) | (simp; omega)) _) | refine below_chain ?_ (by assumption)))
            first | (refine hK _ _ ⟨hz1, ?_⟩; clear hK K) | refine ⟨hz1, ?_⟩
            clear hz1
            refine norm_K fun K hK => ?_
            change wpList _ _ _ [_, _, _] _ _
            go_wp2_with (at_builtin; refine appr_one rfl _ _ rfl w22 (w1.heap.size + 1) _ rfl uv us rfl (.slice (some ⟨g2, 0, none⟩) (u1_).length cap2) 1 rfl rfl hoW.ou (by have := hoW.bx.lt; simp; omega) (by have := HU.out; omega) ?_; intro g3 cap3 w3 hown3 hgb3 hg3 hge3; have bx' := hoW.bx.bl hgb3 (Nat.lt_succ_self _); have bc1 := bx'.c1; have bf1 := bx'.f1)
            first | (refine hK _ _ ⟨rfl, ?_⟩; clear hK K) | refine ⟨rfl, ?_⟩
            have hbz : Below w1.heap.size w1 (w3.setCell ⟨w1.heap.size, 1, none⟩ (.slice (some ⟨g3, 0, none⟩) (us.length + 1) cap3)) := blw_set ((show Below w1.heap.size w1 w22 from below_chain hba (by repeat (first | exact Below.refl _ _ | apply blw_drew | apply blw_alloc | (refine blw_set ?_ (by first | omega | (simp; done) | (simp; omega)) _) | refine below_chain ?_ (by assumption)))).trans (hgb3.mono HN.out)) HM.out _
            have hz := hoW.row (hv2.more (by have := hoA.bx.lt; first | omega | (simp; omega))) hf.1 hf.2 hown3 hgb3 hg3
            go_wp2_with fail
            go_roundw
            case rel => exact ⟨0 + 1, _, _, _, by omega, rfl, hz, hbz⟩
            case measure => simp [intOf]
          · skip
            have hx0 := hx0_.below hb
            have hx1 := hx1_.below hb
            have d00 := kept hb d00_
            have d01 := kept hb d01_
            have d10 := kept hb d10_
            have d11 := kept hb d11_
            have hr := hr_.below hb
            have ca1 := kept hb ca1_
            have cb1 := kept hb cb1_
            have cc1 := kept hb cc1_
            have cr1 := kept hb cr1_
            have cs1 := kept hb cs1_
            have cq1 := kept hb cq1_
            have er1 := er1_.below hb
            have es1 := es1_.below hb
            have eq1 := eq1_.below hb
            have bc0 := ho.bx.c0
            go_wp2
            go_wp2_with fail
            refine region_flow [(false, [(0, 0), (1, 1), (2, 0), (3, 1), (4, 0), (5, 0), (6, 0), (7, 0), (8, 0), (9, 1), (10, 5)]), (false, [(11, 4), (12, 0), (13, 4)])] (by kernel_rfl) ?_
            refine norm_K fun K hK => ?_
            change wpList _ _ _ [_, _, _, _, _, _, _, _, _, _, _] _ _
            have hb21 : Below wr.heap.size wr wr.drew := (by repeat (first | exact Below.refl _ _ | apply blw_drew | apply blw_alloc | (refine blw_set ?_ (by first | omega | (simp; done) | (simp; omega)) _) | refine below_chain ?_ (by assumption)))
            have hx0 := hx0.below hb21; have hx1 := hx1.below hb21; have d00 := kept hb21 d00; have d01 := kept hb21 d01; have d10 := kept hb21 d10; have d11 := kept hb21 d11; have hr := hr.below hb21; have ca1 := kept hb21 ca1; have cb1 := kept hb21 cb1; have cc1 := kept hb21 cc1; have cr1 := kept hb21 cr1; have cs1 := kept hb21 cs1; have cq1 := kept hb21 cq1; have er1 := er1.below hb21; have es1 := es1.below hb21; have eq1 := eq1.below hb21; have ho := ho.below hb21; have bc0 := kept hb21 bc0
            generalize wr.drew = wq at *
            have hoW := ho
            go_wp2_with fail
            have hb22 : Below wq.heap.size wq (wq.alloc (.cells #[.int .i64 b1_] 2)) := (by repeat (first | exact Below.refl _ _ | apply blw_drew | apply blw_alloc | (refine blw_set ?_ (by first | omega | (simp; done) | (simp; omega)) _) | refine below_chain ?_ (by assumption)))
            have hx0 := hx0.below hb22; have hx1 := hx1.below hb22; have d00 := kept hb22 d00; have d01 := kept hb22 d01; have d10 := kept hb22 d10; have d11 := kept hb22 d11; have hr := hr.below hb22; have ca1 := kept hb22 ca1; have cb1 := kept hb22 cb1; have cc1 := kept hb22 cc1; have cr1 := kept hb22 cr1; have cs1 := kept hb22 cs1; have cq1 := kept hb22 cq1; have er1 := er1.below hb22; have es1 := es1.below hb22; have eq1 := eq1.below hb22; have ho := ho.below hb22; have bc0 := kept hb22 bc0
            have hl : OwnI (wq.alloc (.cells #[.int .i64 b1_] 2)) wq.heap.size wq.heap.size [b1_].length [b1_].length [b1_] := OwnI.lit (Nat.le_refl _) [b1_] (by simp)
            go_wp2_with fail
            have hz0 : Below wq.heap.size wq (wq.alloc (.cells #[.int .i64 b1_] 2)) := (by repeat (first | exact Below.refl _ _ | apply blw_drew | apply blw_alloc | (refine blw_set ?_ (by first | omega | (simp; done) | (simp; omega)) _) | refine below_chain ?_ (by assumption)))
            first | (refine hK _ _ ⟨hz0, ?_⟩; clear hK K) | refine ⟨hz0, ?_⟩
            clear hz0
            refine norm_K fun K hK => ?_
            change wpList _ _ _ [_, _, _] _ _
            go_wp2_with (at_builtin; refine appn_one rfl _ _ rfl wq (w1.heap.size + 1) _ rfl dv (tdgS ⟨[a1_, b1_, c1_], [u1_, v1_, t1_]⟩ 0 1) rfl b1_ 1 rfl hoW.od (by have := hoW.bx.lt; simp; omega) (by have := HD.out; omega) ?_; intro g' cap' w' hown' hgb' hg' hge; have bx' := hoW.bx.bl hgb' (Nat.lt_succ_self _); have bc0 := bx'.c0; have bf0 := bx'.f0)
            first | (refine hK _ _ ⟨rfl, ?_⟩; clear hK K) | refine ⟨rfl, ?_⟩
            have hba : Below w1.heap.size w1 (w'.setCell ⟨w1.heap.size, 0, none⟩ (.slice (some ⟨g', 0, none⟩) ((tdgS ⟨[a1_, b1_, c1_], [u1_, v1_, t1_]⟩ 0 1).length + 1) cap')) := blw_set ((show Below w1.heap.size w1 wq from below_chain hb (by repeat (first | exact Below.refl _ _ | apply blw_drew | apply blw_alloc | (refine blw_set ?_ (by first | omega | (simp; done) | (simp; omega)) _) | refine below_chain ?_ (by assumption)))).trans (hgb'.mono HN.out)) HM.out _
            have ho := hoW.num (nv := .slice (some ⟨g', 0, none⟩) ((tdgS ⟨[a1_, b1_, c1_], [u1_, v1_, t1_]⟩ 0 1).length + 1) cap') rfl hown' hgb' hg' hge
            clear bc0 bf0 bx' hown'
            obtain ⟨wa, hwa⟩ : ∃ x, x = w'.setCell ⟨w1.heap.size, 0, none⟩ (.slice (some ⟨g', 0, none⟩) ((tdgS ⟨[a1_, b1_, c1_], [u1_, v1_, t1_]⟩ 0 1).length + 1) cap') := ⟨_, rfl⟩
            rw [← hwa] at hba ho ⊢; clear hwa
            have hx0 := hx0_.below hba
            have hx1 := hx1_.below hba
            have d00 := kept hba d00_
            have d01 := kept hba d01_
            have d10 := kept hba d10_
            have d11 := kept hba d11_
            have hr := hr_.below hba
            have ca1 := kept hba ca1_
            have cb1 := kept hba cb1_
            have cc1 := kept hba cc1_
            have cr1 := kept hba cr1_
            have cs1 := kept hba cs1_
            have cq1 := kept hba cq1_
            have er1 := er1_.below hba
            have es1 := es1_.below hba
            have eq1 := eq1_.below hba
            have bc1 := ho.bx.c1
            go_wp2
            go_wp2_with fail
            refine region_flow [(false, [(0, 0), (1, 1), (2, 0), (3, 1), (4, 0), (5, 0), (6, 0), (7, 0), (8, 0), (9, 1), (10, 5)]), (false, [(11, 5)]), (false, [(12, 4), (13, 0), (14, 4)])] (by kernel_rfl) ?_
            refine norm_K fun K hK => ?_
            change wpList _ _ _ [_, _, _, _, _, _, _, _, _, _, _] _ _
            have hb21 : Below wa.heap.size wa wa.drew := (by repeat (first | exact Below.refl _ _ | apply blw_drew | apply blw_alloc | (refine blw_set ?_ (by first | omega | (simp; done) | (simp; omega)) _) | refine below_chain ?_ (by assumption)))
            have hx0 := hx0.below hb21; have hx1 := hx1.below hb21; have d00 := kept hb21 d00; have d01 := kept hb21 d01; have d10 := kept hb21 d10; have d11 := kept hb21 d11; have hr := hr.below hb21; have ca1 := kept hb21 ca1; have cb1 := kept hb21 cb1; have cc1 := kept hb21 cc1; have cr1 := kept hb21 cr1; have cs1 := kept hb21 cs1; have cq1 := kept hb21 cq1; have er1 := er1.below hb21; have es1 := es1.below hb21; have eq1 := eq1.below hb21; have ho := ho.below hb21; have bc1 := kept hb21 bc1
            generalize wa.drew = wq at *
            have hoF := ho
            have hoA := ho
            go_wp2_with fail
            refine (clone_c es1.sl (by rw [LV.out]; omega) (by rw [LV.out]; omega)).mono ?_; rintro e w22 ⟨z1, rfl, hv2, hb22⟩
            have hx0 := hx0.below hb22; have hx1 := hx1.below hb22; have d00 := kept hb22 d00; have d01 := kept hb22 d01; have d10 := kept hb22 d10; have d11 := kept hb22 d11; have hr := hr.below hb22; have ca1 := kept hb22 ca1; have cb1 := kept hb22 cb1; have cc1 := kept hb22 cc1; have cr1 := kept hb22 cr1; have cs1 := kept hb22 cs1; have cq1 := kept hb22 cq1; have er1 := er1.below hb22; have es1 := es1.below hb22; have eq1 := eq1.below hb22; have ho := ho.below hb22; have bc1 := kept hb22 bc1
            go_wp2_with fail
            have hz0 : Below wq.heap.size wq w22 := (by repeat (first | exact Below.refl _ _ | apply blw_drew | apply blw_alloc | (refine blw_set ?_ (by first | omega | (simp; done) | (simp; omega)) _) | refine below_chain ?_ (by assumption)))
            first | (refine hK _ _ ⟨hz0, ?_⟩; clear hK K) | refine ⟨hz0, ?_⟩
            clear hz0
            refine norm_K fun K hK => ?_
            change wpList _ _ _ [_] _ _
            have hf := hoF.fresh hv2
            obtain ⟨g2, cap2, rfl, hv2o⟩ := id hv2
            have hoW := ho
            have hb23 : Below w22.heap.size w22 (w22.alloc (.cells #[.slice (some ⟨g2, 0, none⟩) (v1_).length cap2] 22)) := (by repeat (first | exact Below.refl _ _ | apply blw_drew | apply blw_alloc | (refine blw_set ?_ (by first | omega | (simp; done) | (simp; omega)) _) | refine below_chain ?_ (by assumption)))
            have hx0 := hx0.below hb23; have hx1 := hx1.below hb23; have d00 := kept hb23 d00; have d01 := kept hb23 d01; have d10 := kept hb23 d10; have d11 := kept hb23 d11; have hr := hr.below hb23; have ca1 := kept hb23 ca1; have cb1 := kept hb23 cb1; have cc1 := kept hb23 cc1; have cr1 := kept hb23 cr1; have cs1 := kept hb23 cs1; have cq1 := kept hb23 cq1; have er1 := er1.below hb23; have es1 := es1.below hb23; have eq1 := eq1.below hb23; have ho := ho.below hb23; have bc1 := kept hb23 bc1
            have x0 : (w22.alloc (.cells #[.slice (some ⟨g2, 0, none⟩) (v1_).length cap2] 22)).cell? ⟨w22.heap.size, 0, none⟩ = some (.slice (some ⟨g2, 0, none⟩) (v1_).length cap2) := by simp [go_sem]
            go_wp2_with fail
            have hz1 : Below wq.heap.size wq (w22.alloc (.cells #[.slice (some ⟨g2, 0, none⟩) (v1_).length cap2] 22)) := (by repeat (first | exact Below.refl _ _ | apply blw_drew | apply blw_alloc | (refine blw_set ?_ (by first | omega | (simp; done) | (simp; omega)) _) | refine below_chain ?_ (by assumption)))
            first | (refine hK _ _ ⟨hz1, ?_⟩; clear hK K) | refine ⟨hz1, ?_⟩
            clear hz1
            refine norm_K fun K hK => ?_
            change wpList _ _ _ [_, _, _] _ _
            go_wp2_with (at_builtin; refine appr_one rfl _ _ rfl w22 (w1.heap.size + 1) _ rfl uv us rfl (.slice (some ⟨g2, 0, none⟩) (v1_).length cap2) 1 rfl rfl hoW.ou (by have := hoW.bx.lt; simp; omega) (by have := HU.out; omega) ?_; intro g3 cap3 w3 hown3 hgb3 hg3 hge3; have bx' := hoW.bx.bl hgb3 (Nat.lt_succ_self _); have bc1 := bx'.c1; have bf1 := bx'.f1)
            first | (refine hK _ _ ⟨rfl, ?_⟩; clear hK K) | refine ⟨rfl, ?_⟩
            have hbz : Below w1.heap.size w1 (w3.setCell ⟨w1.heap.size, 1, none⟩ (.slice (some ⟨g3, 0, none⟩) (us.length + 1) cap3)) := blw_set ((show Below w1.heap.size w1 w22 from below_chain hba (by repeat (first | exact Below.refl _ _ | apply blw_drew | apply blw_alloc | (refine blw_set ?_ (by first | omega | (simp; done) | (simp; omega)) _) | refine below_chain ?_ (by assumption)))).trans (hgb3.mono HN.out)) HM.out _
            have hz := hoW.row (hv2.more (by have := hoA.bx.lt; first | omega | (simp; omega))) hf.1 hf.2 hown3 hgb3 hg3
            go_wp2_with fail
            go_roundw
            case rel => exact ⟨1 + 1, _, _, _, by omega, rfl, hz, hbz⟩
            case measure => simp [intOf]
          · skip
            have hx0 := hx0_.below hb
            have hx1 := hx1_.below hb
            have d00 := kept hb d00_
            have d01 := kept hb d01_
            have d10 := kept hb d10_
            have d11 := kept hb d11_
            have hr := hr_.below hb
            have ca1 := kept hb ca1_
            have cb1 := kept hb cb1_
            have cc1 := kept hb cc1_
            have cr1 := kept hb cr1_
            have cs1 := kept hb cs1_
            have cq1 := kept hb cq1_
            have er1 := er1_.below hb
            have es1 := es1_.below hb
            have eq1 := eq1_.below hb
            have bc0 := ho.bx.c0
            go_wp2
            go_wp2_with fail
            refine region_flow [(false, [(0, 0), (1, 1), (2, 0), (3, 1), (4, 0), (5, 0), (6, 0), (7, 0), (8, 0), (9, 1), (10, 5)]), (false, [(11, 4), (12, 0), (13, 4)])] (by kernel_rfl) ?_
            refine norm_K fun K hK => ?_
            change wpList _ _ _ [_, _, _, _, _, _, _, _, _, _, _] _ _
            have hb21 : Below wr.heap.size wr wr.drew := (by repeat (first | exact Below.refl _ _ | apply blw_drew | apply blw_alloc | (refine blw_set ?_ (by first | omega | (simp; done) | (simp; omega)) _) | refine below_chain ?_ (by assumption)))
            have hx0 := hx0.below hb21; have hx1 := hx1.below hb21; have d00 := kept hb21 d00; have d01 := kept hb21 d01; have d10 := kept hb21 d10; have d11 := kept hb21 d11; have hr := hr.below hb21; have ca1 := kept hb21 ca1; have cb1 := kept hb21 cb1; have cc1 := kept hb21 cc1; have cr1 := kept hb21 cr1; have cs1 := kept hb21 cs1; have cq1 := kept hb21 cq1; have er1 := er1.below hb21; have es1 := es1.below hb21; have eq1 := eq1.below hb21; have ho := ho.below hb21; have bc0 := kept hb21 bc0
            generalize wr.drew = wq at *
            have hoW := ho
            go_wp2_with fail
            have hb22 : Below wq.heap.size wq (wq.alloc (.cells #[.int .i64 c1_] 2)) := (by repeat (first | exact Below.refl _ _ | apply blw_drew | apply blw_alloc | (refine blw_set ?_ (by first | omega | (simp; done) | (simp; omega)) _) | refine below_chain ?_ (by assumption)))
            have hx0 := hx0.below hb22; have hx1 := hx1.below hb22; have d00 := kept hb22 d00; have d01 := kept hb22 d01; have d10 := kept hb22 d10; have d11 := kept hb22 d11; have hr := hr.below hb22; have ca1 := kept hb22 ca1; have cb1 := kept hb22 cb1; have cc1 := kept hb22 cc1; have cr1 := kept hb22 cr1; have cs1 := kept hb22 cs1; have cq1 := kept hb22 cq1; have er1 := er1.below hb22; have es1 := es1.below hb22; have eq1 := eq1.below hb22; have ho := ho.below hb22; have bc0 := kept hb22 bc0
            have hl : OwnI (wq.alloc (.cells #[.int .i64 c1_] 2)) wq.heap.size wq.heap.size [c1_].length [c1_].length [c1_] := OwnI.lit (Nat.le_refl _) [c1_] (by simp)
            go_wp2_with fail
            have hz0 : Below wq.heap.size wq (wq.alloc (.cells #[.int .i64 c1_] 2)) := (by repeat (first | exact Below.refl _ _ | apply blw_drew | apply blw_alloc | (refine blw_set ?_ (by first | omega | (simp; done) | (simp; omega)) _) | refine below_chain ?_ (by assumption)))
            first | (refine hK _ _ ⟨hz0, ?_⟩; clear hK K) | refine ⟨hz0, ?_⟩
            clear hz0
            refine norm_K fun K hK => ?_
            change wpList _ _ _ [_, _, _] _ _
            go_wp2_with (at_builtin; refine appn_one rfl _ _ rfl wq (w1.heap.size + 1) _ rfl dv (tdgS ⟨[a1_, b1_, c1_], [u1_, v1_, t1_]⟩ 0 2) rfl c1_ 1 rfl hoW.od (by have := hoW.bx.lt; simp; omega) (by have := HD.out; omega) ?_; intro g' cap' w' hown' hgb' hg' hge; have bx' := hoW.bx.bl hgb' (Nat.lt_succ_self _); have bc0 := bx'.c0; have bf0 := bx'.f0)
            first | (refine hK _ _ ⟨rfl, ?_⟩; clear hK K) | refine ⟨rfl, ?_⟩
            have hba : Below w1.heap.size w1 (w'.setCell ⟨w1.heap.size, 0, none⟩ (.slice (some ⟨g', 0, none⟩) ((tdgS ⟨[a1_, b1_, c1_], [u1_, v1_, t1_]⟩ 0 2).length + 1) cap')) := blw_set ((show Below w1.heap.size w1 wq from below_chain hb (by repeat (first | exact Below.refl _ _ | apply blw_drew | apply blw_alloc | (refine blw_set ?_ (by first | omega | (simp; done) | (simp; omega)) _) | refine below_chain ?_ (by assumption)))).trans (hgb'.mono HN.out)) HM.out _
            have ho := hoW.num (nv := .slice (some ⟨g', 0, none⟩) ((tdgS ⟨[a1_, b1_, c1_], [u1_, v1_, t1_]⟩ 0 2).length + 1) cap') rfl hown' hgb' hg' hge
            clear bc0 bf0 bx' hown'
            obtain ⟨wa, hwa⟩ : ∃ x, x = w'.setCell ⟨w1.heap.size, 0, none⟩ (.slice (some ⟨g', 0, none⟩) ((tdgS ⟨[a1_, b1_, c1_], [u1_, v1_, t1_]⟩ 0 2).length + 1) cap') := ⟨_, rfl⟩
            rw [← hwa] at hba ho ⊢; clear hwa
            have hx0 := hx0_.below hba
            have hx1 := hx1_.below hba
            have d00 := kept hba d00_
            have d01 := kept hba d01_
            have d10 := kept hba d10_
            have d11 := kept hba d11_
            have hr := hr_.below hba
            have ca1 := kept hba ca1_
            have cb1 := kept hba cb1_
            have cc1 := kept hba cc1_
            have cr1 := kept hba cr1_
            have cs1 := kept hba cs1_
            have cq1 := kept hba cq1_
            have er1 := er1_.below hba
            have es1 := es1_.below hba
            have eq1 := eq1_.below hba
            have bc1 := ho.bx.c1
            go_wp2
            go_wp2_with fail
            refine region_flow [(false, [(0, 0), (1, 1), (2, 0), (3, 1), (4, 0), (5, 0), (6, 0), (7, 0), (8, 0), (9, 1), (10, 5)]), (false, [(11, 5)]), (false, [(12, 4), (13, 0), (14, 4)])] (by kernel_rfl) ?_
            refine norm_K fun K hK => ?_
            change wpList _ _ _ [_, _, _, _, _, _, _, _, _, _, _] _ _
            have hb21 : Below wa.heap.size wa wa.drew := (by repeat (first | exact Below.refl _ _ | apply blw_drew | apply blw_alloc | (refine blw_set ?_ (by first | omega | (simp; done) | (simp; omega)) _) | refine below_chain ?_ (by assumption)))
            have hx0 := hx0.below hb21; have hx1 := hx1.below hb21; have d00 := kept hb21 d00; have d01 := kept hb21 d01; have d10 := kept hb21 d10; have d11 := kept hb21 d11; have hr := hr.below hb21; have ca1 := kept hb21 ca1; have cb1 := kept hb21 cb1; have cc1 := kept hb21 cc1; have cr1 := kept hb21 cr1; have cs1 := kept hb21 cs1; have cq1 := kept hb21 cq1; have er1 := er1.below hb21; have es1 := es1.below hb21; have eq1 := eq1.below hb21; have ho := ho.below hb21; have bc1 := kept hb21 bc1
            generalize wa.drew = wq at *
            have hoF := ho
            have hoA := ho
            go_wp2_with fail
            refine (clone_c eq1.sl (by rw [LT.out]; omega) (by rw [LT.out]; omega)).mono ?_; rintro e w22 ⟨z1, rfl, hv2, hb22⟩
            have hx0 := hx0.below hb22; have hx1 := hx1.below hb22; have d00 := kept hb22 d00; have d01 := kept hb22 d01; have d10 := kept hb22 d10; have d11 := kept hb22 d11; have hr := hr.below hb22; have ca1 := kept hb22 ca1; have cb1 := kept hb22 cb1; have cc1 := kept hb22 cc1; have cr1 := kept hb22 cr1; have cs1 := kept hb22 cs1; have cq1 := kept hb22 cq1; have er1 := er1.below hb22; have es1 := es1.below hb22; have eq1 := eq1.below hb22; have ho := ho.below hb22; have bc1 := kept hb22 bc1
            go_wp2_with fail
            have hz0 : Below wq.heap.size wq w22 := (by repeat (first | exact Below.refl _ _ | apply blw_drew | apply blw_alloc | (refine blw_set ?_ (by first | omega | (simp; done) | (simp; omega)) _) | refine below_chain ?_ (by assumption)))
            first | (refine hK _ _ ⟨hz0, ?_⟩; clear hK K) | refine ⟨hz0, ?_⟩
            clear hz0
            refine norm_K fun K hK => ?_
            change wpList _ _ _ [_] _ _
            have hf := hoF.fresh hv2
            obtain ⟨g2, cap2, rfl, hv2o⟩ := id hv2
            have hoW := ho
            have hb23 : Below w22.heap.size w22 (w22.alloc (.cells #[.slice (some ⟨g2, 0, none⟩) (t1_).length cap2] 22)) := (by repeat (first | exact Below.refl _ _ | apply blw_drew | apply blw_alloc | (refine blw_set ?_ (by first | omega | (simp; done) | (simp; omega)) _) | refine below_chain ?_ (by assumption)))
            have hx0 := hx0.below hb23; have hx1 := hx1.below hb23; have d00 := kept hb23 d00; have d01 := kept hb23 d01; have d10 := kept hb23 d10; have d11 := kept hb23 d11; have hr := hr.below hb23; have ca1 := kept hb23 ca1; have cb1 := kept hb23 cb1; have cc1 := kept hb23 cc1; have cr1 := kept hb23 cr1; have cs1 := kept hb23 cs1; have cq1 := kept hb23 cq1; have er1 := er1.below hb23; have es1 := es1.below hb23; have eq1 := eq1.below hb23; have ho := ho.below hb23; have bc1 := kept hb23 bc1
            have x0 : (w22.alloc (.cells #[.slice (some ⟨g2, 0, none⟩) (t1_).length cap2] 22)).cell? ⟨w22.heap.size, 0, none⟩ = some (.slice (some ⟨g2, 0, none⟩) (t1_).length cap2) := by simp [go_sem]
            go_wp2_with fail
            have hz1 : Below wq.heap.size wq (w22.alloc (.cells #[.slice (some ⟨g2, 0, none⟩) (t1_).length cap2] 22)) := (by repeat (first | exact Below.refl _ _ | apply blw_drew | apply blw_alloc | (refine blw_set ?_ (by first | omega | (simp; done) | (simp; omega)) _) | refine below_chain ?_ (by assumption)))
            first | (refine hK _ _ ⟨hz1, ?_⟩; clear hK K) | refine ⟨hz1, ?_⟩
            clear hz1
            refine norm_K fun K hK => ?_
            change wpList _ _ _ [_, _, _] _ _
            go_wp2_with (at_builtin; refine appr_one rfl _ _ rfl w22 (w1.heap.size + 1) _ rfl uv us rfl (.slice (some ⟨g2, 0, none⟩) (t1_).length cap2) 1 rfl rfl hoW.ou (by have := hoW.bx.lt; simp; omega) (by have := HU.out; omega) ?_; intro g3 cap3 w3 hown3 hgb3 hg3 hge3; have bx' := hoW.bx.bl hgb3 (Nat.lt_succ_self _); have bc1 := bx'.c1; have bf1 := bx'.f1)
            first | (refine hK _ _ ⟨rfl, ?_⟩; clear hK K) | refine ⟨rfl, ?_⟩
            have hbz : Below w1.heap.size w1 (w3.setCell ⟨w1.heap.size, 1, none⟩ (.slice (some ⟨g3, 0, none⟩) (us.length + 1) cap3)) := blw_set ((show Below w1.heap.size w1 w22 from below_chain hba (by repeat (first | exact Below.refl _ _ | apply blw_drew | apply blw_alloc | (refine blw_set ?_ (by first | omega | (simp; done) | (simp; omega)) _) | refine below_chain ?_ (by assumption)))).trans (hgb3.mono HN.out)) HM.out _
            have hz := hoW.row (hv2.more (by have := hoA.bx.lt; first | omega | (simp; omega))) hf.1 hf.2 hown3 hgb3 hg3
            go_wp2_with fail
            go_roundw
            case rel => exact ⟨2 + 1, _, _, _, by omega, rfl, hz, hbz⟩
            case measure => simp [intOf]
          · skip
            have hx0 := hx0_.below hb
            have hx1 := hx1_.below hb
            have d00 := kept hb d00_
            have d01 := kept hb d01_
            have d10 := kept hb d10_
            have d11 := kept hb d11_
            have hr := hr_.below hb
            have ca1 := kept hb ca1_
            have cb1 := kept hb cb1_
            have cc1 := kept hb cc1_
            have cr1 := kept hb cr1_
            have cs1 := kept hb cs1_
            have cq1 := kept hb cq1_
            have er1 := er1_.below hb
            have es1 := es1_.below hb
            have eq1 := eq1_.below hb
            have hfr := ho.frh (by have := HD.out; omega) (by have := HU.out; omega)
            obtain ⟨gd, cd, rfl, _⟩ := ho.od.fr (by have := HD.out; omega)
            obtain ⟨gu, cu, rfl, _⟩ := World.ownsRow.form ho.ou (by have := HU.out; omega)
            have bc0 := ho.bx.c0; have bc1 := ho.bx.c1
            have rc0 := hr.c0; have rc1 := hr.c1; have rf0 := hr.f0; have rf1 := hr.f1
            have hbe := below_chain (show Below w.heap.size w w1 from (by repeat (first | exact Below.refl _ _ | apply blw_drew | apply blw_alloc | (refine blw_set ?_ (by first | omega | (simp; done) | (simp; omega)) _) | refine below_chain ?_ (by assumption)))) hb
            have hz1_ : w.heap.size + 1 + 1 + 1 + 1 ≤ w1.heap.size := by have := hb1.size; have := HWs.out; omega
            go_wp2_with fail
            refine bodyPost_ret (v := .tuple #[.agg #[.slice (some ⟨gd, 0, none⟩) (tdgS ⟨[a1_, b1_, c1_], [u1_, v1_, t1_]⟩ 0 3).length cd, .slice (some ⟨gu, 0, none⟩) us.length cu], .int .i64 0]) (by simp [results, Try.results33, go_sem, rc0, rc1]) rfl ⟨_, rfl, .inr ?_, ?_⟩
            · exact ((hfr.set_ (by first | omega | (simp; done) | (simp; omega)) _).set_ (by first | omega | (simp; done) | (simp; omega)) _).more (by omega)
            · exact blw_set (blw_set hbe (by first | omega | (simp; done) | (simp; omega)) _) (by first | omega | (simp; done) | (simp; omega)) _
      · have h2 : inR 1 0 2 = true := by decide
        have e1 : RTurnRows1 p0 st0 X1 1 = 0 := by unfold RTurnRows1; rw [if_pos h0]; rfl
        rw [show RTurnRows0 p0 st0 X1 1 = ⟨tdgS X1 1 3, tupS X1 1 3⟩ from if_pos e1, e1]
        clear e1
        obtain ⟨a1_, b1_, c1_, u1_, v1_, t1_, bd1, od1, cd1, bu1, ou1, cu1, r1_, s1_, q1_, rfl, e_, ba1, bb1, bc1_, eu1, ev1, et1, ca1, cb1, cc1, cr1, cs1, cq1, er1, es1, eq1, kd1, ku1⟩ := Hv.op3 hx1 hX1
        cases e_
        have LU := Lib.hid eu1.1; have LV := Lib.hid ev1.1; have LT := Lib.hid et1.1
        clear kd1 ku1
        go_enter Try.func33, Try.ntmps33
        go_wp2_with fail
        refine hcon.mono ?_; rintro e w1 ⟨rfl, hb1⟩
        rw [← hW] at hb1
        clear hW hcon
        have hx0 := hx0.below hb1; have hx1 := hx1.below hb1; have d00 := kept hb1 d00; have d01 := kept hb1 d01; have d10 := kept hb1 d10; have d11 := kept hb1 d11; have hr := hr.below hb1; have ca1 := kept hb1 ca1; have cb1 := kept hb1 cb1; have cc1 := kept hb1 cc1; have cr1 := kept hb1 cr1; have cs1 := kept hb1 cs1; have cq1 := kept hb1 cq1; have er1 := er1.below hb1; have es1 := es1.below hb1; have eq1 := eq1.below hb1
        go_wp2_with fail
        refine (inRange_c).mono ?_; rintro e w22 ⟨rfl, rfl⟩
        have HN := Lib.hid (Nat.le_succ w1.heap.size); have HM := Lib.hid (Nat.le_refl w1.heap.size)
        have hx0_ := hx0
        have hx1_ := hx1
        have d00_ := d00
        have d01_ := d01
        have d10_ := d10
        have d11_ := d11
        have hr_ := hr
        have ca1_ := ca1
        have cb1_ := cb1
        have cc1_ := cc1
        have cr1_ := cr1
        have cs1_ := cs1
        have cq1_ := cq1
        have er1_ := er1
        have es1_ := es1
        have eq1_ := eq1
        go_wp2
        go_loopw [24] (fun i wr => ∃ (k : Nat) (dv uv : Value) (us : List Value), k ≤ 3 ∧ i = .int .i64 k ∧ Out wr w1.heap.size dv uv us (tdgS ⟨[a1_, b1_, c1_], [u1_, v1_, t1_]⟩ 1 k) (tupS ⟨[a1_, b1_, c1_], [u1_, v1_, t1_]⟩ 1 k) ∧ Below w1.heap.size w1 wr) (fun i _ => 3 - (intOf i).toNat)
        case atStart => exact ⟨0, _, _, [], by omega, rfl, Out.start (heap_alloc_new w1 _), (by repeat (first | exact Below.refl _ _ | apply blw_drew | apply blw_alloc | (refine blw_set ?_ (by first | omega | (simp; done) | (simp; omega)) _) | refine below_chain ?_ (by assumption)))⟩
        case round =>
          obtain ⟨k, dv, uv, us, hk, rfl, ho, hb⟩ := hrel
          have HD := Lib.hid (tdgS_len (X := ⟨[a1_, b1_, c1_], [u1_, v1_, t1_]⟩) (k := 1) k)
          have HU := Lib.hid (ho.ul.trans (tupS_len k))
          rcases (show k = 0 ∨ k = 1 ∨ k = 2 ∨ k = 3 by omega) with rfl | rfl | rfl | rfl
          · skip
            have hx0 := hx0_.below hb
            have hx1 := hx1_.below hb
            have d00 := kept hb d00_
            have d01 := kept hb d01_
            have d10 := kept hb d10_
            have d11 := kept hb d11_
            have hr := hr_.below hb
            have ca1 := kept hb ca1_
            have cb1 := kept hb cb1_
            have cc1 := kept hb cc1_
            have cr1 := kept hb cr1_
            have cs1 := kept hb cs1_
            have cq1 := kept hb cq1_
            have er1 := er1_.below hb
            have es1 := es1_.below hb
            have eq1 := eq1_.below hb
            have bc0 := ho.bx.c0
            go_wp2
            go_wp2_with fail
            refine region_flow [(false, [(0, 0), (1, 1), (2, 0), (3, 1), (4, 0), (5, 0), (6, 0), (7, 0), (8, 0), (9, 1), (10, 5)]), (false, [(11, 4), (12, 0), (13, 4)])] (by kernel_rfl) ?_
            refine norm_K fun K hK => ?_
            change wpList _ _ _ [_, _, _, _, _, _, _, _, _, _, _] _ _
            have hb21 : Below wr.heap.size wr wr.drew := (by repeat (first | exact Below.refl _ _ | apply blw_drew | apply blw_alloc | (refine blw_set ?_ (by first | omega | (simp; done) | (simp; omega)) _) | refine below_chain ?_ (by assumption)))
            have hx0 := hx0.below hb21; have hx1 := hx1.below hb21; have d00 := kept hb21 d00; have d01 := kept hb21 d01; have d10 := kept hb21 d10; have d11 := kept hb21 d11; have hr := hr.below hb21; have ca1 := kept hb21 ca1; have cb1 := kept hb21 cb1; have cc1 := kept hb21 cc1; have cr1 := kept hb21 cr1; have cs1 := kept hb21 cs1; have cq1 := kept hb21 cq1; have er1 := er1.below hb21; have es1 := es1.below hb21; have eq1 := eq1.below hb21; have ho := ho.below hb21; have bc0 := kept hb21 bc0
            generalize wr.drew = wq at *
            have hoW := ho
            go_wp2_with fail
            have hb22 : Below wq.heap.size wq (wq.alloc (.cells #[.int .i64 b1_] 2)) := (by repeat (first | exact Below.refl _ _ | apply blw_drew | apply blw_alloc | (refine blw_set ?_ (by first | omega | (simp; done) | (simp; omega)) _) | refine below_chain ?_ (by assumption)))
            have hx0 := hx0.below hb22; have hx1 := hx1.below hb22; have d00 := kept hb22 d00; have d01 := kept hb22 d01; have d10 := kept hb22 d10; have d11 := kept hb22 d11; have hr := hr.below hb22; have ca1 := kept hb22 ca1; have cb1 := kept hb22 cb1; have cc1 := kept hb22 cc1; have cr1 := kept hb22 cr1; have cs1 := kept hb22 cs1; have cq1 := kept hb22 cq1; have er1 := er1.below hb22; have es1 := es1.below hb22; have eq1 := eq1.below hb22; have ho := ho.below hb22; have bc0 := kept hb22 bc0
            have hl : OwnI (wq.alloc (.cells #[.int .i64 b1_] 2)) wq.heap.size wq.heap.size [b1_].length [b1_].length [b1_] := OwnI.lit (Nat.le_refl _) [b1_] (by simp)
            go_wp2_with fail
            have hz0 : Below wq.heap.size wq (wq.alloc (.cells #[.int .i64 b1_] 2)) := (by repeat (first | exact Below.refl _ _ | apply blw_drew | apply blw_alloc | (refine blw_set ?_ (by first | omega | (simp; done) | (simp; omega)) _) | refine below_chain ?_ (by assumption)))
            first | (refine hK _ _ ⟨hz0, ?_⟩; clear hK K) | refine ⟨hz0, ?_⟩
            clear hz0
            refine norm_K fun K hK => ?_
            change wpList _ _ _ [_, _, _] _ _
            go_wp2_with (at_builtin; refine appn_one rfl _ _ rfl wq (w1.heap.size + 1) _ rfl dv (tdgS ⟨[a1_, b1_, c1_], [u1_, v1_, t1_]⟩ 1 0) rfl b1_ 1 rfl hoW.od (by have := hoW.bx.lt; simp; omega) (by have := HD.out; omega) ?_; intro g' cap' w' hown' hgb' hg' hge; have bx' := hoW.bx.bl hgb' (Nat.lt_succ_self _); have bc0 := bx'.c0; have bf0 := bx'.f0)
            first | (refine hK _ _ ⟨rfl, ?_⟩; clear hK K) | refine ⟨rfl, ?_⟩
            have hba : Below w1.heap.size w1 (w'.setCell ⟨w1.heap.size, 0, none⟩ (.slice (some ⟨g', 0, none⟩) ((tdgS ⟨[a1_, b1_, c1_], [u1_, v1_, t1_]⟩ 1 0).length + 1) cap')) := blw_set ((show Below w1.heap.size w1 wq from below_chain hb (by repeat (first | exact Below.refl _ _ | apply blw_drew | apply blw_alloc | (refine blw_set ?_ (by first | omega | (simp; done) | (simp; omega)) _) | refine below_chain ?_ (by assumption)))).trans (hgb'.mono HN.out)) HM.out _
            have ho := hoW.num (nv := .slice (some ⟨g', 0, none⟩) ((tdgS ⟨[a1_, b1_, c1_], [u1_, v1_, t1_]⟩ 1 0).length + 1) cap') rfl hown' hgb' hg' hge
            clear bc0 bf0 bx' hown'
            obtain ⟨wa, hwa⟩ : ∃ x, x = w'.setCell ⟨w1.heap.size, 0, none⟩ (.slice (some ⟨g', 0, none⟩) ((tdgS ⟨[a1_, b1_, c1_], [u1_, v1_, t1_]⟩ 1 0).length + 1) cap') := ⟨_, rfl⟩
            rw [← hwa] at hba ho ⊢; clear hwa
            have hx0 := hx0_.below hba
            have hx1 := hx1_.below hba
            have d00 := kept hba d00_
            have d01 := kept hba d01_
            have d10 := kept hba d10_
            have d11 := kept hba d11_
            have hr := hr_.below hba
            have ca1 := kept hba ca1_
            have cb1 := kept hba cb1_
            have cc1 := kept hba cc1_
            have cr1 := kept hba cr1_
            have cs1 := kept hba cs1_
            have cq1 := kept hba cq1_
            have er1 := er1_.below hba
            have es1 := es1_.below hba
            have eq1 := eq1_.below hba
            have bc1 := ho.bx.c1
            go_wp2
            go_wp2_with fail
            refine region_flow [(false, [(0, 0), (1, 1), (2, 0), (3, 1), (4, 0), (5, 0), (6, 0), (7, 0), (8, 0), (9, 1), (10, 5)]), (false, [(11, 5)]), (false, [(12, 4), (13, 0), (14, 4)])] (by kernel_rfl) ?_
            refine norm_K fun K hK => ?_
            change wpList _ _ _ [_, _, _, _, _, _, _, _, _, _, _] _ _
            have hb21 : Below wa.heap.size wa wa.drew := (by repeat (first | exact Below.refl _ _ | apply blw_drew | apply blw_alloc | (refine blw_set ?_ (by first | omega | (simp; done) | (simp; omega)) _) | refine below_chain ?_ (by assumption)))
            have hx0 := hx0.below hb21; have hx1 := hx1.below hb21; have d00 := kept hb21 d00; have d01 := kept hb21 d01; have d10 := kept hb21 d10; have d11 := kept hb21 d11; have hr := hr.below hb21; have ca1 := kept hb21 ca1; have cb1 := kept hb21 cb1; have cc1 := kept hb21 cc1; have cr1 := kept hb21 cr1; have cs1 := kept hb21 cs1; have cq1 := kept hb21 cq1; have er1 := er1.below hb21; have es1 := es1.below hb21; have eq1 := eq1.below hb21; have ho := ho.below hb21; have bc1 := kept hb21 bc1
            generalize wa.drew = wq at *
            have hoF := ho
            have hoA := ho
            go_wp2_with fail
            refine (clone_c es1.sl (by rw [LV.out]; omega) (by rw [LV.out]; omega)).mono ?_; rintro e w22 ⟨z1, rfl, hv2, hb22⟩
            have hx0 := hx0.below hb22; have hx1 := hx1.below hb22; have d00 := kept hb22 d00; have d01 := kept hb22 d01; have d10 := kept hb22 d10; have d11 := kept hb22 d11; have hr := hr.below hb22; have ca1 := kept hb22 ca1; have cb1 := kept hb22 cb1; have cc1 := kept hb22 cc1; have cr1 := kept hb22 cr1; have cs1 := kept hb22 cs1; have cq1 := kept hb22 cq1; have er1 := er1.below hb22; have es1 := es1.below hb22; have eq1 := eq1.below hb22; have ho := ho.below hb22; have bc1 := kept hb22 bc1
            go_wp2_with fail
            have hz0 : Below wq.heap.size wq w22 := (by repeat (first | exact Below.refl _ _ | apply blw_drew | apply blw_alloc | (refine blw_set ?_ (by first | omega | (simp; done) | (simp; omega)) _) | refine below_chain ?_ (by assumption)))
            first | (refine hK _ _ ⟨hz0, ?_⟩; clear hK K) | refine ⟨hz0, ?_⟩
            clear hz0
            refine norm_K fun K hK => ?_
            change wpList _ _ _ [_] _ _
            have hf := hoF.fresh hv2
            obtain ⟨g2, cap2, rfl, hv2o⟩ := id hv2
            have hoW := ho
            have hb23 : Below w22.heap.size w22 (w22.alloc (.cells #[.slice (some ⟨g2, 0, none⟩) (v1_).length cap2] 22)) := (by repeat (first | exact Below.refl _ _ | apply blw_drew | apply blw_alloc | (refine blw_set ?_ (by first | omega | (simp; done) | (simp; omega)) _) | refine below_chain ?_ (by assumption)))
            have hx0 := hx0.below hb23; have hx1 := hx1.below hb23; have d00 := kept hb23 d00; have d01 := kept hb23 d01; have d10 := kept hb23 d10; have d11 := kept hb23 d11; have hr := hr.below hb23; have ca1 := kept hb23 ca1; have cb1 := kept hb23 cb1; have cc1 := kept hb23 cc1; have cr1 := kept hb23 cr1; have cs1 := kept hb23 cs1; have cq1 := kept hb23 cq1; have er1 := er1.below hb23; have es1 := es1.below hb23; have eq1 := eq1.below hb23; have ho := ho.below hb23; have bc1 := kept hb23 bc1
            have x0 : (w22.alloc (.cells #[.slice (some ⟨g2, 0, none⟩) (v1_).length cap2] 22)).cell? ⟨w22.heap.size, 0, none⟩ = some (.slice (some ⟨g2, 0, none⟩) (v1_).length cap2) := by simp [go_sem]
            go_wp2_with fail
            have hz1 : Below wq.heap.size wq (w22.alloc (.cells #[.slice (some ⟨g2, 0, none⟩) (v1_).length cap2] 22)) := (by repeat (first | exact Below.refl _ _ | apply blw_drew | apply blw_alloc | (refine blw_set ?_ (by first | omega | (simp; done) | (simp; omega)) _) | refine below_chain ?_ (by assumption)))
            first | (refine hK _ _ ⟨hz1, ?_⟩; clear hK K) | refine ⟨hz1, ?_⟩
            clear hz1
            refine norm_K fun K hK => ?_
            change wpList _ _ _ [_, _, _] _ _
            go_wp2_with (at_builtin; refine appr_one rfl _ _ rfl w22 (w1.heap.size + 1) _ rfl uv us rfl (.slice (some ⟨g2, 0, none⟩) (v1_).length cap2) 1 rfl rfl hoW.ou (by have := hoW.bx.lt; simp; omega) (by have := HU.out; omega) ?_; intro g3 cap3 w3 hown3 hgb3 hg3 hge3; have bx' := hoW.bx.bl hgb3 (Nat.lt_succ_self _); have bc1 := bx'.c1; have bf1 := bx'.f1)
            first | (refine hK _ _ ⟨rfl, ?_⟩; clear hK K) | refine ⟨rfl, ?_⟩
            have hbz : Below w1.heap.size w1 (w3.setCell ⟨w1.heap.size, 1, none⟩ (.slice (some ⟨g3, 0, none⟩) (us.length + 1) cap3)) := blw_set ((show Below w1.heap.size w1 w22 from below_chain hba (by repeat (first | exact Below.refl _ _ | apply blw_drew | apply blw_alloc | (refine blw_set ?_ (by first | omega | (simp; done) | (simp; omega)) _) | refine below_chain ?_ (by assumption)))).trans (hgb3.mono HN.out)) HM.out _
            have hz := hoW.row (hv2.more (by have := hoA.bx.lt; first | omega | (simp; omega))) hf.1 hf.2 hown3 hgb3 hg3
            go_wp2_with fail
            go_roundw
            case rel => exact ⟨0 + 1, _, _, _, by omega, rfl, hz, hbz⟩
            case measure => simp [intOf]
          · skip
            have hx0 := hx0_.below hb
            have hx1 := hx1_.below hb
            have d00 := kept hb d00_
            have d01 := kept hb d01_
            have d10 := kept hb d10_
            have d11 := kept hb d11_
            have hr := hr_.below hb
            have ca1 := kept hb ca1_
            have cb1 := kept hb cb1_
            have cc1 := kept hb cc1_
            have cr1 := kept hb cr1_
            have cs1 := kept hb cs1_
            have cq1 := kept hb cq1_
            have er1 := er1_.below hb
            have es1 := es1_.below hb
            have eq1 := eq1_.below hb
            have bc0 := ho.bx.c0
            go_wp2
            go_wp2_with fail
            refine region_flow [(false, [(0, 0), (1, 1), (2, 0), (3, 1), (4, 0), (5, 0), (6, 0), (7, 0), (8, 0), (9, 1), (10, 5)]), (false, [(11, 4), (12, 0), (13, 4)])] (by kernel_rfl) ?_
            refine norm_K fun K hK => ?_
            change wpList _ _ _ [_, _, _, _, _, _, _, _, _, _, _] _ _
            have hb21 : Below wr.heap.size wr wr.drew := (by repeat (first | exact Below.refl _ _ | apply blw_drew | apply blw_alloc | (refine blw_set ?_ (by first | omega | (simp; done) | (simp; omega)) _) | refine below_chain ?_ (by assumption)))
            have hx0 := hx0.below hb21; have hx1 := hx1.below hb21; have d00 := kept hb21 d00; have d01 := kept hb21 d01; have d10 := kept hb21 d10; have d11 := kept hb21 d11; have hr := hr.below hb21; have ca1 := kept hb21 ca1; have cb1 := kept hb21 cb1; have cc1 := kept hb21 cc1; have cr1 := kept hb21 cr1; have cs1 := kept hb21 cs1; have cq1 := kept hb21 cq1; have er1 := er1.below hb21; have es1 := es1.below hb21; have eq1 := eq1.below hb21; have ho := ho.below hb21; have bc0 := kept hb21 bc0
            generalize wr.drew = wq at *
            have hoW := ho
            go_wp2_with fail
            have hb22 : Below wq.heap.size wq (wq.alloc (.cells #[.int .i64 c1_] 2)) := (by repeat (first | exact Below.refl _ _ | apply blw_drew | apply blw_alloc | (refine blw_set ?_ (by first | omega | (simp; done) | (simp; omega)) _) | refine below_chain ?_ (by assumption)))
            have hx0 := hx0.below hb22; have hx1 := hx1.below hb22; have d00 := kept hb22 d00; have d01 := kept hb22 d01; have d10 := kept hb22 d10; have d11 := kept hb22 d11; have hr := hr.below hb22; have ca1 := kept hb22 ca1; have cb1 := kept hb22 cb1; have cc1 := kept hb22 cc1; have cr1 := kept hb22 cr1; have cs1 := kept hb22 cs1; have cq1 := kept hb22 cq1; have er1 := er1.below hb22; have es1 := es1.below hb22; have eq1 := eq1.below hb22; have ho := ho.below hb22; have bc0 := kept hb22 bc0
            have hl : OwnI (wq.alloc (.cells #[.int .i64 c1_] 2)) wq.heap.size wq.heap.size [c1_].length [c1_].length [c1_] := OwnI.lit (Nat.le_refl _) [c1_] (by simp)
            go_wp2_with fail
            have hz0 : Below wq.heap.size wq (wq.alloc (.cells #[.int .i64 c1_] 2)) := (by repeat (first | exact Below.refl _ _ | apply blw_drew | apply blw_alloc | (refine blw_set ?_ (by first | omega | (simp; done) | (simp; omega)) _) | refine below_chain ?_ (by assumption)))
            first | (refine hK _ _ ⟨hz0, ?_⟩; clear hK K) | refine ⟨hz0, ?_⟩
            clear hz0
            refine norm_K fun K hK => ?_
            change wpList _ _ _ [_, _, _] _ _
            go_wp2_with (at_builtin; refine appn_one rfl _ _ rfl wq (w1.heap.size + 1) _ rfl dv (tdgS ⟨[a1_, b1_, c1_], [u1_, v1_, t1_]⟩ 1 1) rfl c1_ 1 rfl hoW.od (by have := hoW.bx.lt; simp; omega) (by have := HD.out; omega) ?_; intro g' cap' w' hown' hgb' hg' hge; have bx' := hoW.bx.bl hgb' (Nat.lt_succ_self _); have bc0 := bx'.c0; have bf0 := bx'.f0)
            first | (refine hK _ _ ⟨rfl, ?_⟩; clear hK K) | refine ⟨rfl, ?_⟩
            have hba : Below w1.heap.size w1 (w'.setCell ⟨w1.heap.size, 0, none⟩ (.slice (some ⟨g', 0, none⟩) ((tdgS ⟨[a1_, b1_, c1_], [u1_, v1_, t1_]⟩ 1 1).length + 1) cap')) := blw_set ((show Below w1.heap.size w1 wq from below_chain hb (by repeat (first | exact Below.refl _ _ | apply blw_drew | apply blw_alloc | (refine blw_set ?_ (by first | omega | (simp; done) | (simp; omega)) _) | refine below_chain ?_ (by assumption)))).trans (hgb'.mono HN.out)) HM.out _
            have ho := hoW.num (nv := .slice (some ⟨g', 0, none⟩) ((tdgS ⟨[a1_, b1_, c1_], [u1_, v1_, t1_]⟩ 1 1).length + 1) cap') rfl hown' hgb' hg' hge
            clear bc0 bf0 bx' hown'
            obtain ⟨wa, hwa⟩ : ∃ x, x = w'.setCell ⟨w1.heap.size, 0, none⟩ (.slice (some ⟨g', 0, none⟩) ((tdgS ⟨[a1_, b1_, c1_], [u1_, v1_, t1_]⟩ 1 1).length + 1) cap') := ⟨_, rfl⟩
            rw [← hwa] at hba ho ⊢; clear hwa
            have hx0 := hx0_.below hba
            have hx1 := hx1_.below hba
            have d00 := kept hba d00_
            have d01 := kept hba d01_
            have d10 := kept hba d10_
            have d11 := kept hba d11_
            have hr := hr_.below hba
            have ca1 := kept hba ca1_
            have cb1 := kept hba cb1_
            have cc1 := kept hba cc1_
            have cr1 := kept hba cr1_
            have cs1 := kept hba cs1_
            have cq1 := kept hba cq1_
            have er1 := er1_.below hba
            have es1 := es1_.below hba
            have eq1 := eq1_.below hba
            have bc1 := ho.bx.c1
            go_wp2
            go_wp2_with fail
            refine region_flow [(false, [(0, 0), (1, 1), (2, 0), (3, 1), (4, 0), (5, 0), (6, 0), (7, 0), (8, 0), (9, 1), (10, 5)]), (false, [(11, 5)]), (false, [(12, 4), (13, 0), (14, 4)])] (by kernel_rfl) ?_
            refine norm_K fun K hK => ?_
            change wpList _ _ _ [_, _, _, _, _, _, _, _, _, _, _] _ _
            have hb21 : Below wa.heap.size wa wa.drew := (by repeat (first | exact Below.refl _ _ | apply blw_drew | apply blw_alloc | (refine blw_set ?_ (by first | omega | (simp; done) | (simp; omega)) _) | refine below_chain ?_ (by assumption)))
            have hx0 := hx0.below hb21; have hx1 := hx1.below hb21; have d00 := kept hb21 d00; have d01 := kept hb21 d01; have d10 := kept hb21 d10; have d11 := kept hb21 d11; have hr := hr.below hb21; have ca1 := kept hb21 ca1; have cb1 := kept hb21 cb1; have cc1 := kept hb21 cc1; have cr1 := kept hb21 cr1; have cs1 := kept hb21 cs1; have cq1 := kept hb21 cq1; have er1 := er1.below hb21; have es1 := es1.below hb21; have eq1 := eq1.below hb21; have ho := ho.below hb21; have bc1 := kept hb21 bc1
            generalize wa.drew = wq at *
            have hoF := ho
            have hoA := ho
            go_wp2_with fail
            refine (clone_c eq1.sl (by rw [LT.out]; omega) (by rw [LT.out]; omega)).mono ?_; rintro e w22 ⟨z1, rfl, hv2, hb22⟩
            have hx0 := hx0.below hb22; have hx1 := hx1.below hb22; have d00 := kept hb22 d00; have d01 := kept hb22 d01; have d10 := kept hb22 d10; have d11 := kept hb22 d11; have hr := hr.below hb22; have ca1 := kept hb22 ca1; have cb1 := kept hb22 cb1; have cc1 := kept hb22 cc1; have cr1 := kept hb22 cr1; have cs1 := kept hb22 cs1; have cq1 := kept hb22 cq1; have er1 := er1.below hb22; have es1 := es1.below hb22; have eq1 := eq1.below hb22; have ho := ho.below hb22; have bc1 := kept hb22 bc1
            go_wp2_with fail
            have hz0 : Below wq.heap.size wq w22 := (by repeat (first | exact Below.refl _ _ | apply blw_drew | apply blw_alloc | (refine blw_set ?_ (by first | omega | (simp; done) | (simp; omega)) _) | refine below_chain ?_ (by assumption)))
            first | (refine hK _ _ ⟨hz0, ?_⟩; clear hK K) | refine ⟨hz0, ?_⟩
            clear hz0
            refine norm_K fun K hK => ?_
            change wpList _ _ _ [_] _ _
            have hf := hoF.fresh hv2
            obtain ⟨g2, cap2, rfl, hv2o⟩ := id hv2
            have hoW := ho
            have hb23 : Below w22.heap.size w22 (w22.alloc (.cells #[.slice (some ⟨g2, 0, none⟩) (t1_).length cap2] 22)) := (by repeat (first | exact Below.refl _ _ | apply blw_drew | apply blw_alloc | (refine blw_set ?_ (by first | omega | (simp; done) | (simp; omega)) _) | refine below_chain ?_ (by assumption)))
            have hx0 := hx0.below hb23; have hx1 := hx1.below hb23; have d00 := kept hb23 d00; have d01 := kept hb23 d01; have d10 := kept hb23 d10; have d11 := kept hb23 d11; have hr := hr.below hb23; have ca1 := kept hb23 ca1; have cb1 := kept hb23 cb1; have cc1 := kept hb23 cc1; have cr1 := kept hb23 cr1; have cs1 := kept hb23 cs1; have cq1 := kept hb23 cq1; have er1 := er1.below hb23; have es1 := es1.below hb23; have eq1 := eq1.below hb23; have ho := ho.below hb23; have bc1 := kept hb23 bc1
            have x0 : (w22.alloc (.cells #[.slice (some ⟨g2, 0, none⟩) (t1_).length cap2] 22)).cell? ⟨w22.heap.size, 0, none⟩ = some (.slice (some ⟨g2, 0, none⟩) (t1_).length cap2) := by simp [go_sem]
            go_wp2_with fail
            have hz1 : Below wq.heap.size wq (w22.alloc (.cells #[.slice (some ⟨g2, 0, none⟩) (t1_).length cap2] 22)) := (by repeat (first | exact Below.refl _ _ | apply blw_drew | apply blw_alloc | (refine blw_set ?_ (by first | omega | (simp; done) | (simp; omega)) _) | refine below_chain ?_ (by assumption)))
            first | (refine hK _ _ ⟨hz1, ?_⟩; clear hK K) | refine ⟨hz1, ?_⟩
            clear hz1
            refine norm_K fun K hK => ?_
            change wpList _ _ _ [_, _, _] _ _
            go_wp2_with (at_builtin; refine appr_one rfl _ _ rfl w22 (w1.heap.size + 1) _ rfl uv us rfl (.slice (some ⟨g2, 0, none⟩) (t1_).length cap2) 1 rfl rfl hoW.ou (by have := hoW.bx.lt; simp; omega) (by have := HU.out; omega) ?_; intro g3 cap3 w3 hown3 hgb3 hg3 hge3; have bx' := hoW.bx.bl hgb3 (Nat.lt_succ_self _); have bc1 := bx'.c1; have bf1 := bx'.f1)
            first | (refine hK _ _ ⟨rfl, ?_⟩; clear hK K) | refine ⟨rfl, ?_⟩
            have hbz : Below w1.heap.size w1 (w3.setCell ⟨w1.heap.size, 1, none⟩ (.slice (some ⟨g3, 0, none⟩) (us.length + 1) cap3)) := blw_set ((show Below w1.heap.size w1 w22 from below_chain hba (by repeat (first | exact Below.refl _ _ | apply blw_drew | apply blw_alloc | (refine blw_set ?_ (by first | omega | (simp; done) | (simp; omega)) _) | refine below_chain ?_ (by assumption)))).trans (hgb3.mono HN.out)) HM.out _
            have hz := hoW.row (hv2.more (by have := hoA.bx.lt; first | omega | (simp; omega))) hf.1 hf.2 hown3 hgb3 hg3
            go_wp2_with fail
            go_roundw
            case rel => exact ⟨1 + 1, _, _, _, by omega, rfl, hz, hbz⟩
            case measure => simp [intOf]
          · skip
            have hx0 := hx0_.below hb
            have hx1 := hx1_.below hb
            have d00 := kept hb d00_
            have d01 := kept hb d01_
            have d10 := kept hb d10_
            have d11 := kept hb d11_
            have hr := hr_.below hb
            have ca1 := kept hb ca1_
            have cb1 := kept hb cb1_
            have cc1 := kept hb cc1_
            have cr1 := kept hb cr1_
            have cs1 := kept hb cs1_
            have cq1 := kept hb cq1_
            have er1 := er1_.below hb
            have es1 := es1_.below hb
            have eq1 := eq1_.below hb
            have bc0 := ho.bx.c0
            go_wp2
            go_wp2_with fail
            refine region_flow [(false, [(0, 0), (1, 1), (2, 0), (3, 1), (4, 0), (5, 0), (6, 0), (7, 0), (8, 0), (9, 1), (10, 5)]), (false, [(11, 4), (12, 0), (13, 4)])] (by kernel_rfl) ?_
            refine norm_K fun K hK => ?_
            change wpList _ _ _ [_, _, _, _, _, _, _, _, _, _, _] _ _
            have hb21 : Below wr.heap.size wr wr.drew := (by repeat (first | exact Below.refl _ _ | apply blw_drew | apply blw_alloc | (refine blw_set ?_ (by first | omega | (simp; done) | (simp; omega)) _) | refine below_chain ?_ (by assumption)))
            have hx0 := hx0.below hb21; have hx1 := hx1.below hb21; have d00 := kept hb21 d00; have d01 := kept hb21 d01; have d10 := kept hb21 d10; have d11 := kept hb21 d11; have hr := hr.below hb21; have ca1 := kept hb21 ca1; have cb1 := kept hb21 cb1; have cc1 := kept hb21 cc1; have cr1 := kept hb21 cr1; have cs1 := kept hb21 cs1; have cq1 := kept hb21 cq1; have er1 := er1.below hb21; have es1 := es1.below hb21; have eq1 := eq1.below hb21; have ho := ho.below hb21; have bc0 := kept hb21 bc0
            generalize wr.drew = wq at *
            have hoW := ho
            go_wp2_with fail
            have hb22 : Below wq.heap.size wq (wq.alloc (.cells #[.int .i64 a1_] 2)) := (by repeat (first | exact Below.refl _ _ | apply blw_drew | apply blw_alloc | (refine blw_set ?_ (by first | omega | (simp; done) | (simp; omega)) _) | refine below_chain ?_ (by assumption)))
            have hx0 := hx0.below hb22; have hx1 := hx1.below hb22; have d00 := kept hb22 d00; have d01 := kept hb22 d01; have d10 := kept hb22 d10; have d11 := kept hb22 d11; have hr := hr.below hb22; have ca1 := kept hb22 ca1; have cb1 := kept hb22 cb1; have cc1 := kept hb22 cc1; have cr1 := kept hb22 cr1; have cs1 := kept hb22 cs1; have cq1 := kept hb22 cq1; have er1 := er1.below hb22; have es1 := es1.below hb22; have eq1 := eq1.below hb22; have ho := ho.below hb22; have bc0 := kept hb22 bc0
            have hl : OwnI (wq.alloc (.cells #[.int .i64 a1_] 2)) wq.heap.size wq.heap.size [a1_].length [a1_].length [a1_] := OwnI.lit (Nat.le_refl _) [a1_] (by simp)
            go_wp2_with fail
            have hz0 : Below wq.heap.size wq (wq.alloc (.cells #[.int .i64 a1_] 2)) := (by repeat (first | exact Below.refl _ _ | apply blw_drew | apply blw_alloc | (refine blw_set ?_ (by first | omega | (simp; done) | (simp; omega)) _) | refine below_chain ?_ (by assumption)))
            first | (refine hK _ _ ⟨hz0, ?_⟩; clear hK K) | refine ⟨hz0, ?_⟩
            clear hz0
            refine norm_K fun K hK => ?_
            change wpList _ _ _ [_, _, _] _ _
            go_wp2_with (at_builtin; refine appn_one rfl _ _ rfl wq (w1.heap.size + 1) _ rfl dv (tdgS ⟨[a1_, b1_, c1_], [u1_, v1_, t1_]⟩ 1 2) rfl a1_ 1 rfl hoW.od (by have := hoW.bx.lt; simp; omega) (by have := HD.out; omega) ?_; intro g' cap' w' hown' hgb' hg' hge; have bx' := hoW.bx.bl hgb' (Nat.lt_succ_self _); have bc0 := bx'.c0; have bf0 := bx'.f0)
            first | (refine hK _ _ ⟨rfl, ?_⟩; clear hK K) | refine ⟨rfl, ?_⟩
            have hba : Below w1.heap.size w1 (w'.setCell ⟨w1.heap.size, 0, none⟩ (.slice (some ⟨g', 0, none⟩) ((tdgS ⟨[a1_, b1_, c1_], [u1_, v1_, t1_]⟩ 1 2).length + 1) cap')) := blw_set ((show Below w1.heap.size w1 wq from below_chain hb (by repeat (first | exact Below.refl _ _ | apply blw_drew | apply blw_alloc | (refine blw_set ?_ (by first | omega | (simp; done) | (simp; omega)) _) | refine below_chain ?_ (by assumption)))).trans (hgb'.mono HN.out)) HM.out _
            have ho := hoW.num (nv := .slice (some ⟨g', 0, none⟩) ((tdgS ⟨[a1_, b1_, c1_], [u1_, v1_, t1_]⟩ 1 2).length + 1) cap') rfl hown' hgb' hg' hge
            clear bc0 bf0 bx' hown'
            obtain ⟨wa, hwa⟩ : ∃ x, x = w'.setCell ⟨w1.heap.size, 0, none⟩ (.slice (some ⟨g', 0, none⟩) ((tdgS ⟨[a1_, b1_, c1_], [u1_, v1_, t1_]⟩ 1 2).length + 1) cap') := ⟨_, rfl⟩
            rw [← hwa] at hba ho ⊢; clear hwa
            have hx0 := hx0_.below hba
            have hx1 := hx1_.below hba
            have d00 := kept hba d00_
            have d01 := kept hba d01_
            have d10 := kept hba d10_
            have d11 := kept hba d11_
            have hr := hr_.below hba
            have ca1 := kept hba ca1_
            have cb1 := kept hba cb1_
            have cc1 := kept hba cc1_
            have cr1 := kept hba cr1_
            have cs1 := kept hba cs1_
            have cq1 := kept hba cq1_
            have er1 := er1_.below hba
            have es1 := es1_.below hba
            have eq1 := eq1_.below hba
            have bc1 := ho.bx.c1
            go_wp2
            go_wp2_with fail
            refine region_flow [(false, [(0, 0), (1, 1), (2, 0), (3, 1), (4, 0), (5, 0), (6, 0), (7, 0), (8, 0), (9, 1), (10, 5)]), (false, [(11, 5)]), (false, [(12, 4), (13, 0), (14, 4)])] (by kernel_rfl) ?_
            refine norm_K fun K hK => ?_
            change wpList _ _ _ [_, _, _, _, _, _, _, _, _, _, _] _ _
            have hb21 : Below wa.heap.size wa wa.drew := (by repeat (first | exact Below.refl _ _ | apply blw_drew | apply blw_alloc | (refine blw_set ?_ (by first | omega | (simp; done) | (simp; omega)) _) | refine below_chain ?_ (by assumption)))
            have hx0 := hx0.below hb21; have hx1 := hx1.below hb21; have d00 := kept hb21 d00; have d01 := kept hb21 d01; have d10 := kept hb21 d10; have d11 := kept hb21 d11; have hr := hr.below hb21; have ca1 := kept hb21 ca1; have cb1 := kept hb21 cb1; have cc1 := kept hb21 cc1; have cr1 := kept hb21 cr1; have cs1 := kept hb21 cs1; have cq1 := kept hb21 cq1; have er1 := er1.below hb21; have es1 := es1.below hb21; have eq1 := eq1.below hb21; have ho := ho.below hb21; have bc1 := kept hb21 bc1
            generalize wa.drew = wq at *
            have hoF := ho
            have hoA := ho
            go_wp2_with fail
            refine (clone_c er1.sl (by rw [LU.out]; omega) (by rw [LU.out]; omega)).mono ?_; rintro e w22 ⟨z1, rfl, hv2, hb22⟩
            have hx0 := hx0.below hb22; have hx1 := hx1.below hb22; have d00 := kept hb22 d00; have d01 := kept hb22 d01; have d10 := kept hb22 d10; have d11 := kept hb22 d11; have hr := hr.below hb22; have ca1 := kept hb22 ca1; have cb1 := kept hb22 cb1; have cc1 := kept hb22 cc1; have cr1 := kept hb22 cr1; have cs1 := kept hb22 cs1; have cq1 := kept hb22 cq1; have er1 := er1.below hb22; have es1 := es1.below hb22; have eq1 := eq1.below hb22; have ho := ho.below hb22; have bc1 := kept hb22 bc1
            go_wp2_with fail
            have hz0 : Below wq.heap.size wq w22 := (by repeat (first | exact Below.refl _ _ | apply blw_drew | apply blw_alloc | (refine blw_set ?_ (by first | omega | (simp; done) | (simp; omega)) _) | refine below_chain ?_ (by assumption)))
            first | (refine hK _ _ ⟨hz0, ?_⟩; clear hK K) | refine ⟨hz0, ?_⟩
            clear hz0
            refine norm_K fun K hK => ?_
            change wpList _ _ _ [_] _ _
            have hf := hoF.fresh hv2
            obtain ⟨g2, cap2, rfl, hv2o⟩ := id hv2
            have hoW := ho
            have hb23 : Below w22.heap.size w22 (w22.alloc (.cells #[.slice (some ⟨g2, 0, none⟩) (u1_).length cap2] 22)) := (by repeat (first | exact Below.refl _ _ | apply blw_drew | apply blw_alloc | (refine blw_set ?_ (by first | omega | (simp; done) | (simp; omega)) _) | refine below_chain ?_ (by assumption)))
            have hx0 := hx0.below hb23; have hx1 := hx1.below hb23; have d00 := kept hb23 d00; have d01 := kept hb23 d01; have d10 := kept hb23 d10; have d11 := kept hb23 d11; have hr := hr.below hb23; have ca1 := kept hb23 ca1; have cb1 := kept hb23 cb1; have cc1 := kept hb23 cc1; have cr1 := kept hb23 cr1; have cs1 := kept hb23 cs1; have cq1 := kept hb23 cq1; have er1 := er1.below hb23; have es1 := es1.below hb23; have eq1 := eq1.below hb23; have ho := ho.below hb23; have bc1 := kept hb23 bc1
            have x0 : (w22.alloc (.cells #[.slice (some ⟨g2, 0, none⟩) (u1_).length cap2] 22)).cell? ⟨w22.heap.size, 0, none⟩ = some (.slice (some ⟨g2, 0, none⟩) (u1_).length cap2) := by simp [go_sem]
            go_wp2_with fail
            have hz1 : Below wq.heap.size wq (w22.alloc (.cells #[.slice (some ⟨g2, 0, none⟩) (u1_).length cap2] 22)) := (by repeat (first | exact Below.refl _ _ | apply blw_drew | apply blw_alloc | (refine blw_set ?_ (by first | omega | (simp; done) | (simp; omega)) _) | refine below_chain ?_ (by assumption)))
            first | (refine hK _ _ ⟨hz1, ?_⟩; clear hK K) | refine ⟨hz1, ?_⟩
            clear hz1
            refine norm_K fun K hK => ?_
            change wpList _ _ _ [_, _, _] _ _
            go_wp2_with (at_builtin; refine appr_one rfl _ _ rfl w22 (w1.heap.size + 1) _ rfl uv us rfl (.slice (some ⟨g2, 0, none⟩) (u1_).length cap2) 1 rfl rfl hoW.ou (by have := hoW.bx.lt; simp; omega) (by have := HU.out; omega) ?_; intro g3 cap3 w3 hown3 hgb3 hg3 hge3; have bx' := hoW.bx.bl hgb3 (Nat.lt_succ_self _); have bc1 := bx'.c1; have bf1 := bx'.f1)
            first | (refine hK _ _ ⟨rfl, ?_⟩; clear hK K) | refine ⟨rfl, ?_⟩
            have hbz : Below w1.heap.size w1 (w3.setCell ⟨w1.heap.size, 1, none⟩ (.slice (some ⟨g3, 0, none⟩) (us.length + 1) cap3)) := blw_set ((show Below w1.heap.size w1 w22 from below_chain hba (by repeat (first | exact Below.refl _ _ | apply blw_drew | apply blw_alloc | (refine blw_set ?_ (by first | omega | (simp; done) | (simp; omega)) _) | refine below_chain ?_ (by assumption)))).trans (hgb3.mono HN.out)) HM.out _
            have hz := hoW.row (hv2.more (by have := hoA.bx.lt; first | omega | (simp; omega))) hf.1 hf.2 hown3 hgb3 hg3
            go_wp2_with fail
            go_roundw
            case rel => exact ⟨2 + 1, _, _, _, by omega, rfl, hz, hbz⟩
            case measure => simp [intOf]
          · skip
            have hx0 := hx0_.below hb
            have hx1 := hx1_.below hb
            have d00 := kept hb d00_
            have d01 := kept hb d01_
            have d10 := kept hb d10_
            have d11 := kept hb d11_
            have hr := hr_.below hb
            have ca1 := kept hb ca1_
            have cb1 := kept hb cb1_
            have cc1 := kept hb cc1_
            have cr1 := kept hb cr1_
            have cs1 := kept hb cs1_
            have cq1 := kept hb cq1_
            have er1 := er1_.below hb
            have es1 := es1_.below hb
            have eq1 := eq1_.below hb
            have hfr := ho.frh (by have := HD.out; omega) (by have := HU.out; omega)
            obtain ⟨gd, cd, rfl, _⟩ := ho.od.fr (by have := HD.out; omega)
            obtain ⟨gu, cu, rfl, _⟩ := World.ownsRow.form ho.ou (by have := HU.out; omega)
            have bc0 := ho.bx.c0; have bc1 := ho.bx.c1
            have rc0 := hr.c0; have rc1 := hr.c1; have rf0 := hr.f0; have rf1 := hr.f1
            have hbe := below_chain (show Below w.heap.size w w1 from (by repeat (first | exact Below.refl _ _ | apply blw_drew | apply blw_alloc | (refine blw_set ?_ (by first | omega | (simp; done) | (simp; omega)) _) | refine below_chain ?_ (by assumption)))) hb
            have hz1_ : w.heap.size + 1 + 1 + 1 + 1 ≤ w1.heap.size := by have := hb1.size; have := HWs.out; omega
            go_wp2_with fail
            refine bodyPost_ret (v := .tuple #[.agg #[.slice (some ⟨gd, 0, none⟩) (tdgS ⟨[a1_, b1_, c1_], [u1_, v1_, t1_]⟩ 1 3).length cd, .slice (some ⟨gu, 0, none⟩) us.length cu], .int .i64 0]) (by simp [results, Try.results33, go_sem, rc0, rc1]) rfl ⟨_, rfl, .inr ?_, ?_⟩
            · exact ((hfr.set_ (by first | omega | (simp; done) | (simp; omega)) _).set_ (by first | omega | (simp; done) | (simp; omega)) _).more (by omega)
            · exact blw_set (blw_set hbe (by first | omega | (simp; done) | (simp; omega)) _) (by first | omega | (simp; done) | (simp; omega)) _
      · have h2 : inR 2 0 2 = true := by decide
        have e1 : RTurnRows1 p0 st0 X1 2 = 0 := by unfold RTurnRows1; rw [if_pos h0]; rfl
        rw [show RTurnRows0 p0 st0 X1 2 = ⟨tdgS X1 2 3, tupS X1 2 3⟩ from if_pos e1, e1]
        clear e1
        obtain ⟨a1_, b1_, c1_, u1_, v1_, t1_, bd1, od1, cd1, bu1, ou1, cu1, r1_, s1_, q1_, rfl, e_, ba1, bb1, bc1_, eu1, ev1, et1, ca1, cb1, cc1, cr1, cs1, cq1, er1, es1, eq1, kd1, ku1⟩ := Hv.op3 hx1 hX1
        cases e_
        have LU := Lib.hid eu1.1; have LV := Lib.hid ev1.1; have LT := Lib.hid et1.1
        clear kd1 ku1
        go_enter Try.func33, Try.ntmps33
        go_wp2_with fail
        refine hcon.mono ?_; rintro e w1 ⟨rfl, hb1⟩
        rw [← hW] at hb1
        clear hW hcon
        have hx0 := hx0.below hb1; have hx1 := hx1.below hb1; have d00 := kept hb1 d00; have d01 := kept hb1 d01; have d10 := kept hb1 d10; have d11 := kept hb1 d11; have hr := hr.below hb1; have ca1 := kept hb1 ca1; have cb1 := kept hb1 cb1; have cc1 := kept hb1 cc1; have cr1 := kept hb1 cr1; have cs1 := kept hb1 cs1; have cq1 := kept hb1 cq1; have er1 := er1.below hb1; have es1 := es1.below hb1; have eq1 := eq1.below hb1
        go_wp2_with fail
        refine (inRange_c).mono ?_; rintro e w22 ⟨rfl, rfl⟩
        have HN := Lib.hid (Nat.le_succ w1.heap.size); have HM := Lib.hid (Nat.le_refl w1.heap.size)
        have hx0_ := hx0
        have hx1_ := hx1
        have d00_ := d00
        have d01_ := d01
        have d10_ := d10
        have d11_ := d11
        have hr_ := hr
        have ca1_ := ca1
        have cb1_ := cb1
        have cc1_ := cc1
        have cr1_ := cr1
        have cs1_ := cs1
        have cq1_ := cq1
        have er1_ := er1
        have es1_ := es1
        have eq1_ := eq1
        go_wp2
        go_loopw [24] (fun i wr => ∃ (k : Nat) (dv uv : Value) (us : List Value), k ≤ 3 ∧ i = .int .i64 k ∧ Out wr w1.heap.size dv uv us (tdgS ⟨[a1_, b1_, c1_], [u1_, v1_, t1_]⟩ 2 k) (tupS ⟨[a1_, b1_, c1_], [u1_, v1_, t1_]⟩ 2 k) ∧ Below w1.heap.size w1 wr) (fun i _ => 3 - (intOf i).toNat)
        case atStart => exact ⟨0, _, _, [], by omega, rfl, Out.start (heap_alloc_new w1 _), (by repeat (first | exact Below.refl _ _ | apply blw_drew | apply blw_alloc | (refine blw_set ?_ (by first | omega | (simp; done) | (simp; omega)) _) | refine below_chain ?_ (by assumption)))⟩
        case round =>
          obtain ⟨k, dv, uv, us, hk, rfl, ho, hb⟩ := hrel
          have HD := Lib.hid (tdgS_len (X := ⟨[a1_, b1_, c1_], [u1_, v1_, t1_]⟩) (k := 2) k)
          have HU := Lib.hid (ho.ul.trans (tupS_len k))
          rcases (show k = 0 ∨ k = 1 ∨ k = 2 ∨ k = 3 by omega) with rfl | rfl | rfl | rfl
          · skip
            have hx0 := hx0_.below hb
            have hx1 := hx1_.below hb
            have d00 := kept hb d00_
            have d01 := kept hb d01_
            have d10 := kept hb d10_
            have d11 := kept hb d11_
            have hr := hr_.below hb
            have ca1 := kept hb ca1_
            have cb1 := kept hb cb1_
            have cc1 := kept hb cc1_
            have cr1 := kept hb cr1_
            have cs1 := kept hb cs1_
            have cq1 := kept hb cq1_
            have er1 := er1_.below hb
            have es1 := es1_.below hb
            have eq1 := eq1_.below hb
            have bc0 := ho.bx.c0
            go_wp2
            go_wp2_with fail
            refine region_flow [(false, [(0, 0), (1, 1), (2, 0), (3, 1), (4, 0), (5, 0), (6, 0), (7, 0), (8, 0), (9, 1), (10, 5)]), (false, [(11, 4), (12, 0), (13, 4)])] (by kernel_rfl) ?_
            refine norm_K fun K hK => ?_
            change wpList _ _ _ [_, _, _, _, _, _, _, _, _, _, _] _ _
            have hb21 : Below wr.heap.size wr wr.drew := (by repeat (first | exact Below.refl _ _ | apply blw_drew | apply blw_alloc | (refine blw_set ?_ (by first | omega | (simp; done) | (simp; omega)) _) | refine below_chain ?_ (by assumption)))
            have hx0 := hx0.below hb21; have hx1 := hx1.below hb21; have d00 := kept hb21 d00; have d01 := kept hb21 d01; have d10 := kept hb21 d10; have d11 := kept hb21 d11; have hr := hr.below hb21; have ca1 := kept hb21 ca1; have cb1 := kept hb21 cb1; have cc1 := kept hb21 cc1; have cr1 := kept hb21 cr1; have cs1 := kept hb21 cs1; have cq1 := kept hb21 cq1; have er1 := er1.below hb21; have es1 := es1.below hb21; have eq1 := eq1.below hb21; have ho := ho.below hb21; have bc0 := kept hb21 bc0
            generalize wr.drew = wq at *
            have hoW := ho
            go_wp2_with fail
            have hb22 : Below wq.heap.size wq (wq.alloc (.cells #[.int .i64 c1_] 2)) := (by repeat (first | exact Below.refl _ _ | apply blw_drew | apply blw_alloc | (refine blw_set ?_ (by first | omega | (simp; done) | (simp; omega)) _) | refine below_chain ?_ (by assumption)))
            have hx0 := hx0.below hb22; have hx1 := hx1.below hb22; have d00 := kept hb22 d00; have d01 := kept hb22 d01; have d10 := kept hb22 d10; have d11 := kept hb22 d11; have hr := hr.below hb22; have ca1 := kept hb22 ca1; have cb1 := kept hb22 cb1; have cc1 := kept hb22 cc1; have cr1 := kept hb22 cr1; have cs1 := kept hb22 cs1; have cq1 := kept hb22 cq1; have er1 := er1.below hb22; have es1 := es1.below hb22; have eq1 := eq1.below hb22; have ho := ho.below hb22; have bc0 := kept hb22 bc0
            have hl : OwnI (wq.alloc (.cells #[.int .i64 c1_] 2)) wq.heap.size wq.heap.size [c1_].length [c1_].length [c1_] := OwnI.lit (Nat.le_refl _) [c1_] (by simp)
            go_wp2_with fail
            have hz0 : Below wq.heap.size wq (wq.alloc (.cells #[.int .i64 c1_] 2)) := (by repeat (first | exact Below.refl _ _ | apply blw_drew | apply blw_alloc | (refine blw_set ?_ (by first | omega | (simp; done) | (simp; omega)) _) | refine below_chain ?_ (by assumption)))
            first | (refine hK _ _ ⟨hz0, ?_⟩; clear hK K) | refine ⟨hz0, ?_⟩
            clear hz0
            refine norm_K fun K hK => ?_
            change wpList _ _ _ [_, _, _] _ _
            go_wp2_with (at_builtin; refine appn_one rfl _ _ rfl wq (w1.heap.size + 1) _ rfl dv (tdgS ⟨[a1_, b1_, c1_], [u1_, v1_, t1_]⟩ 2 0) rfl c1_ 1 rfl hoW.od (by have := hoW.bx.lt; simp; omega) (by have := HD.out; omega) ?_; intro g' cap' w' hown' hgb' hg' hge; have bx' := hoW.bx.bl hgb' (Nat.lt_succ_self _); have bc0 := bx'.c0; have bf0 := bx'.f0)
            first | (refine hK _ _ ⟨rfl, ?_⟩; clear hK K) | refine ⟨rfl, ?_⟩
            have hba : Below w1.heap.size w1 (w'.setCell ⟨w1.heap.size, 0, none⟩ (.slice (some ⟨g', 0, none⟩) ((tdgS ⟨[a1_, b1_, c1_], [u1_, v1_, t1_]⟩ 2 0).length + 1) cap')) := blw_set ((show Below w1.heap.size w1 wq from below_chain hb (by repeat (first | exact Below.refl _ _ | apply blw_drew | apply blw_alloc | (refine blw_set ?_ (by first | omega | (simp; done) | (simp; omega)) _) | refine below_chain ?_ (by assumption)))).trans (hgb'.mono HN.out)) HM.out _
            have ho := hoW.num (nv := .slice (some ⟨g', 0, none⟩) ((tdgS ⟨[a1_, b1_, c1_], [u1_, v1_, t1_]⟩ 2 0).length + 1) cap') rfl hown' hgb' hg' hge
            clear bc0 bf0 bx' hown'
            obtain ⟨wa, hwa⟩ : ∃ x, x = w'.setCell ⟨w1.heap.size, 0, none⟩ (.slice (some ⟨g', 0, none⟩) ((tdgS ⟨[a1_, b1_, c1_], [u1_, v1_, t1_]⟩ 2 0).length + 1) cap') := ⟨_, rfl⟩
            rw [← hwa] at hba ho ⊢; clear hwa
            have hx0 := hx0_.below hba
            have hx1 := hx1_.below hba
            have d00 := kept hba d00_
            have d01 := kept hba d01_
            have d10 := kept hba d10_
            have d11 := kept hba d11_
            have hr := hr_.below hba
            have ca1 := kept hba ca1_
            have cb1 := kept hba cb1_
            have cc1 := kept hba cc1_
            have cr1 := kept hba cr1_
            have cs1 := kept hba cs1_
            have cq1 := kept hba cq1_
            have er1 := er1_.below hba
            have es1 := es1_.below hba
            have eq1 := eq1_.below hba
            have bc1 := ho.bx.c1
            go_wp2
            go_wp2_with fail
            refine region_flow [(false, [(0, 0), (1, 1), (2, 0), (3, 1), (4, 0), (5, 0), (6, 0), (7, 0), (8, 0), (9, 1), (10, 5)]), (false, [(11, 5)]), (false, [(12, 4), (13, 0), (14, 4)])] (by kernel_rfl) ?_
            refine norm_K fun K hK => ?_
            change wpList _ _ _ [_, _, _, _, _, _, _, _, _, _, _] _ _
            have hb21 : Below wa.heap.size wa wa.drew := (by repeat (first | exact Below.refl _ _ | apply blw_drew | apply blw_alloc | (refine blw_set ?_ (by first | omega | (simp; done) | (simp; omega)) _) | refine below_chain ?_ (by assumption)))
            have hx0 := hx0.below hb21; have hx1 := hx1.below hb21; have d00 := kept hb21 d00; have d01 := kept hb21 d01; have d10 := kept hb21 d10; have d11 := kept hb21 d11; have hr := hr.below hb21; have ca1 := kept hb21 ca1; have cb1 := kept hb21 cb1; have cc1 := kept hb21 cc1; have cr1 := kept hb21 cr1; have cs1 := kept hb21 cs1; have cq1 := kept hb21 cq1; have er1 := er1.below hb21; have es1 := es1.below hb21; have eq1 := eq1.below hb21; have ho := ho.below hb21; have bc1 := kept hb21 bc1
            generalize wa.drew = wq at *
            have hoF := ho
            have hoA := ho
            go_wp2_with fail
            refine (clone_c eq1.sl (by rw [LT.out]; omega) (by rw [LT.out]; omega)).mono ?_; rintro e w22 ⟨z1, rfl, hv2, hb22⟩
            have hx0 := hx0.below hb22; have hx1 := hx1.below hb22; have d00 := kept hb22 d00; have d01 := kept hb22 d01; have d10 := kept hb22 d10; have d11 := kept hb22 d11; have hr := hr.below hb22; have ca1 := kept hb22 ca1; have cb1 := kept hb22 cb1; have cc1 := kept hb22 cc1; have cr1 := kept hb22 cr1; have cs1 := kept hb22 cs1; have cq1 := kept hb22 cq1; have er1 := er1.below hb22; have es1 := es1.below hb22; have eq1 := eq1.below hb22; have ho := ho.below hb22; have bc1 := kept hb22 bc1
            go_wp2_with fail
            have hz0 : Below wq.heap.size wq w22 := (by repeat (first | exact Below.refl _ _ | apply blw_drew | apply blw_alloc | (refine blw_set ?_ (by first | omega | (simp; done) | (simp; omega)) _) | refine below_chain ?_ (by assumption)))
            first | (refine hK _ _ ⟨hz0, ?_⟩; clear hK K) | refine ⟨hz0, ?_⟩
            clear hz0
            refine norm_K fun K hK => ?_
            change wpList _ _ _ [_] _ _
            have hf := hoF.fresh hv2
            obtain ⟨g2, cap2, rfl, hv2o⟩ := id hv2
            have hoW := ho
            have hb23 : Below w22.heap.size w22 (w22.alloc (.cells #[.slice (some ⟨g2, 0, none⟩) (t1_).length cap2] 22)) := (by repeat (first | exact Below.refl _ _ | apply blw_drew | apply blw_alloc | (refine blw_set ?_ (by first | omega | (simp; done) | (simp; omega)) _) | refine below_chain ?_ (by assumption)))
            have hx0 := hx0.below hb23; have hx1 := hx1.below hb23; have d00 := kept hb23 d00; have d01 := kept hb23 d01; have d10 := kept hb23 d10; have d11 := kept hb23 d11; have hr := hr.below hb23; have ca1 := kept hb23 ca1; have cb1 := kept hb23 cb1; have cc1 := kept hb23 cc1; have cr1 := kept hb23 cr1; have cs1 := kept hb23 cs1; have cq1 := kept hb23 cq1; have er1 := er1.below hb23; have es1 := es1.below hb23; have eq1 := eq1.below hb23; have ho := ho.below hb23; have bc1 := kept hb23 bc1
            have x0 : (w22.alloc (.cells #[.slice (some ⟨g2, 0, none⟩) (t1_).length cap2] 22)).cell? ⟨w22.heap.size, 0, none⟩ = some (.slice (some ⟨g2, 0, none⟩) (t1_).length cap2) := by simp [go_sem]
            go_wp2_with fail
            have hz1 : Below wq.heap.size wq (w22.alloc (.cells #[.slice (some ⟨g2, 0, none⟩) (t1_).length cap2] 22)) := (by repeat (first | exact Below.refl _ _ | apply blw_drew | apply blw_alloc | (refine blw_set ?_ (by first | omega | (simp; done) | (simp; omega)) _) | refine below_chain ?_ (by assumption)))
            first | (refine hK _ _ ⟨hz1, ?_⟩; clear hK K) | refine ⟨hz1, ?_⟩
            clear hz1
            refine norm_K fun K hK => ?_
            change wpList _ _ _ [_, _, _] _ _
            go_wp2_with (at_builtin; refine appr_one rfl _ _ rfl w22 (w1.heap.size + 1) _ rfl uv us rfl (.slice (some ⟨g2, 0, none⟩) (t1_).length cap2) 1 rfl rfl hoW.ou (by have := hoW.bx.lt; simp; omega) (by have := HU.out; omega) ?_; intro g3 cap3 w3 hown3 hgb3 hg3 hge3; have bx' := hoW.bx.bl hgb3 (Nat.lt_succ_self _); have bc1 := bx'.c1; have bf1 := bx'.f1)
            first | (refine hK _ _ ⟨rfl, ?_⟩; clear hK K) | refine ⟨rfl, ?_⟩
            have hbz : Below w1.heap.size w1 (w3.setCell ⟨w1.heap.size, 1, none⟩ (.slice (some ⟨g3, 0, none⟩) (us.length + 1) cap3)) := blw_set ((show Below w1.heap.size w1 w22 from below_chain hba (by repeat (first | exact Below.refl _ _ | apply blw_drew | apply blw_alloc | (refine blw_set ?_ (by first | omega | (simp; done) | (simp; omega)) _) | refine below_chain ?_ (by assumption)))).trans (hgb3.mono HN.out)) HM.out _
            have hz := hoW.row (hv2.more (by have := hoA.bx.lt; first | omega | (simp; omega))) hf.1 hf.2 hown3 hgb3 hg3
            go_wp2_with fail
            go_roundw
            case rel => exact ⟨0 + 1, _, _, _, by omega, rfl, hz, hbz⟩
            case measure => simp [intOf]
          · skip
            have hx0 := hx0_.below hb
            have hx1 := hx1_.below hb
            have d00 := kept hb d00_
            have d01 := kept hb d01_
            have d10 := kept hb d10_
            have d11 := kept hb d11_
            have hr := hr_.below hb
            have ca1 := kept hb ca1_
            have cb1 := kept hb cb1_
            have cc1 := kept hb cc1_
            have cr1 := kept hb cr1_
            have cs1 := kept hb cs1_
            have cq1 := kept hb cq1_
            have er1 := er1_.below hb
            have es1 := es1_.below hb
            have eq1 := eq1_.below hb
            have bc0 := ho.bx.c0
            go_wp2
            go_wp2_with fail
            refine region_flow [(false, [(0, 0), (1, 1), (2, 0), (3, 1), (4, 0), (5, 0), (6, 0), (7, 0), (8, 0), (9, 1), (10, 5)]), (false, [(11, 4), (12, 0), (13, 4)])] (by kernel_rfl) ?_
            refine norm_K fun K hK => ?_
            change wpList _ _ _ [_, _, _, _, _, _, _, _, _, _, _] _ _
            have hb21 : Below wr.heap.size wr wr.drew := (by repeat (first | exact Below.refl _ _ | apply blw_drew | apply blw_alloc | (refine blw_set ?_ (by first | omega | (simp; done) | (simp; omega)) _) | refine below_chain ?_ (by assumption)))
            have hx0 := hx0.below hb21; have hx1 := hx1.below hb21; have d00 := kept hb21 d00; have d01 := kept hb21 d01; have d10 := kept hb21 d10; have d11 := kept hb21 d11; have hr := hr.below hb21; have ca1 := kept hb21 ca1; have cb1 := kept hb21 cb1; have cc1 := kept hb21 cc1; have cr1 := kept hb21 cr1; have cs1 := kept hb21 cs1; have cq1 := kept hb21 cq1; have er1 := er1.below hb21; have es1 := es1.below hb21; have eq1 := eq1.below hb21; have ho := ho.below hb21; have bc0 := kept hb21 bc0
            generalize wr.drew = wq at *
            have hoW := ho
            go_wp2_with fail
            have hb22 : Below wq.heap.size wq (wq.alloc (.cells #[.int .i64 a1_] 2)) := (by repeat (first | exact Below.refl _ _ | apply blw_drew | apply blw_alloc | (refine blw_set ?_ (by first | omega | (simp; done) | (simp; omega)) _) | refine below_chain ?_ (by assumption)))
            have hx0 := hx0.below hb22; have hx1 := hx1.below hb22; have d00 := kept hb22 d00; have d01 := kept hb22 d01; have d10 := kept hb22 d10; have d11 := kept hb22 d11; have hr := hr.below hb22; have ca1 := kept hb22 ca1; have cb1 := kept hb22 cb1; have cc1 := kept hb22 cc1; have cr1 := kept hb22 cr1; have cs1 := kept hb22 cs1; have cq1 := kept hb22 cq1; have er1 := er1.below hb22; have es1 := es1.below hb22; have eq1 := eq1.below hb22; have ho := ho.below hb22; have bc0 := kept hb22 bc0
            have hl : OwnI (wq.alloc (.cells #[.int .i64 a1_] 2)) wq.heap.size wq.heap.size [a1_].length [a1_].length [a1_] := OwnI.lit (Nat.le_refl _) [a1_] (by simp)
            go_wp2_with fail
            have hz0 : Below wq.heap.size wq (wq.alloc (.cells #[.int .i64 a1_] 2)) := (by repeat (first | exact Below.refl _ _ | apply blw_drew | apply blw_alloc | (refine blw_set ?_ (by first | omega | (simp; done) | (simp; omega)) _) | refine below_chain ?_ (by assumption)))
            first | (refine hK _ _ ⟨hz0, ?_⟩; clear hK K) | refine ⟨hz0, ?_⟩
            clear hz0
            refine norm_K fun K hK => ?_
            change wpList _ _ _ [_, _, _] _ _
            go_wp2_with (at_builtin; refine appn_one rfl _ _ rfl wq (w1.heap.size + 1) _ rfl dv (tdgS ⟨[a1_, b1_, c1_], [u1_, v1_, t1_]⟩ 2 1) rfl a1_ 1 rfl hoW.od (by have := hoW.bx.lt; simp; omega) (by have := HD.out; omega) ?_; intro g' cap' w' hown' hgb' hg' hge; have bx' := hoW.bx.bl hgb' (Nat.lt_succ_self _); have bc0 := bx'.c0; have bf0 := bx'.f0)
            first | (refine hK _ _ ⟨rfl, ?_⟩; clear hK K) | refine ⟨rfl, ?_⟩
            have hba : Below w1.heap.size w1 (w'.setCell ⟨w1.heap.size, 0, none⟩ (.slice (some ⟨g', 0, none⟩) ((tdgS ⟨[a1_, b1_, c1_], [u1_, v1_, t1_]⟩ 2 1).length + 1) cap')) := blw_set ((show Below w1.heap.size w1 wq from below_chain hb (by repeat (first | exact Below.refl _ _ | apply blw_drew | apply blw_alloc | (refine blw_set ?_ (by first | omega | (simp; done) | (simp; omega)) _) | refine below_chain ?_ (by assumption)))).trans (hgb'.mono HN.out)) HM.out _
            have ho := hoW.num (nv := .slice (some ⟨g', 0, none⟩) ((tdgS ⟨[a1_, b1_, c1_], [u1_, v1_, t1_]⟩ 2 1).length + 1) cap') rfl hown' hgb' hg' hge
            clear bc0 bf0 bx' hown'
            obtain ⟨wa, hwa⟩ : ∃ x, x = w'.setCell ⟨w1.heap.size, 0, none⟩ (.slice (some ⟨g', 0, none⟩) ((tdgS ⟨[a1_, b1_, c1_], [u1_, v1_, t1_]⟩ 2 1).length + 1) cap') := ⟨_, rfl⟩
            rw [← hwa] at hba ho ⊢; clear hwa
            have hx0 := hx0_.below hba
            have hx1 := hx1_.below hba
            have d00 := kept hba d00_
            have d01 := kept hba d01_
            have d10 := kept hba d10_
            have d11 := kept hba d11_
            have hr := hr_.below hba
            have ca1 := kept hba ca1_
            have cb1 := kept hba cb1_
            have cc1 := kept hba cc1_
            have cr1 := kept hba cr1_
            have cs1 := kept hba cs1_
            have cq1 := kept hba cq1_
            have er1 := er1_.below hba
            have es1 := es1_.below hba
            have eq1 := eq1_.below hba
            have bc1 := ho.bx.c1
            go_wp2
            go_wp2_with fail
            refine region_flow [(false, [(0, 0), (1, 1), (2, 0), (3, 1), (4, 0), (5, 0), (6, 0), (7, 0), (8, 0), (9, 1), (10, 5)]), (false, [(11, 5)]), (false, [(12, 4), (13, 0), (14, 4)])] (by kernel_rfl) ?_
            refine norm_K fun K hK => ?_
            change wpList _ _ _ [_, _, _, _, _, _, _, _, _, _, _] _ _
            have hb21 : Below wa.heap.size wa wa.drew := (by repeat (first | exact Below.refl _ _ | apply blw_drew | apply blw_alloc | (refine blw_set ?_ (by first | omega | (simp; done) | (simp; omega)) _) | refine below_chain ?_ (by assumption)))
            have hx0 := hx0.below hb21; have hx1 := hx1.below hb21; have d00 := kept hb21 d00; have d01 := kept hb21 d01; have d10 := kept hb21 d10; have d11 := kept hb21 d11; have hr := hr.below hb21; have ca1 := kept hb21 ca1; have cb1 := kept hb21 cb1; have cc1 := kept hb21 cc1; have cr1 := kept hb21 cr1; have cs1 := kept hb21 cs1; have cq1 := kept hb21 cq1; have er1 := er1.below hb21; have es1 := es1.below hb21; have eq1 := eq1.below hb21; have ho := ho.below hb21; have bc1 := kept hb21 bc1
            generalize wa.drew = wq at *
            have hoF := ho
            have hoA := ho
            go_wp2_with fail
            refine (clone_c er1.sl (by rw [LU.out]; omega) (by rw [LU.out]; omega)).mono ?_; rintro e w22 ⟨z1, rfl, hv2, hb22⟩
            have hx0 := hx0.below hb22; have hx1 := hx1.below hb22; have d00 := kept hb22 d00; have d01 := kept hb22 d01; have d10 := kept hb22 d10; have d11 := kept hb22 d11; have hr := hr.below hb22; have ca1 := kept hb22 ca1; have cb1 := kept hb22 cb1; have cc1 := kept hb22 cc1; have cr1 := kept hb22 cr1; have cs1 := kept hb22 cs1; have cq1 := kept hb22 cq1; have er1 := er1.below hb22; have es1 := es1.below hb22; have eq1 := eq1.below hb22; have ho := ho.below hb22; have bc1 := kept hb22 bc1
            go_wp2_with fail
            have hz0 : Below wq.heap.size wq w22 := (by repeat (first | exact Below.refl _ _ | apply blw_drew | apply blw_alloc | (refine blw_set ?_ (by first | omega | (simp; done) | (simp; omega)) _) | refine below_chain ?_ (by assumption)))
            first | (refine hK _ _ ⟨hz0, ?_⟩; clear hK K) | refine ⟨hz0, ?_⟩
            clear hz0
            refine norm_K fun K hK => ?_
            change wpList _ _ _ [_] _ _
            have hf := hoF.fresh hv2
            obtain ⟨g2, cap2, rfl, hv2o⟩ := id hv2
            have hoW := ho
            have hb23 : Below w22.heap.size w22 (w22.alloc (.cells #[.slice (some ⟨g2, 0, none⟩) (u1_).length cap2] 22)) := (by repeat (first | exact Below.refl _ _ | apply blw_drew | apply blw_alloc | (refine blw_set ?_ (by first | omega | (simp; done) | (simp; omega)) _) | refine below_chain ?_ (by assumption)))
            have hx0 := hx0.below hb23; have hx1 := hx1.below hb23; have d00 := kept hb23 d00; have d01 := kept hb23 d01; have d10 := kept hb23 d10; have d11 := kept hb23 d11; have hr := hr.below hb23; have ca1 := kept hb23 ca1; have cb1 := kept hb23 cb1; have cc1 := kept hb23 cc1; have cr1 := kept hb23 cr1; have cs1 := kept hb23 cs1; have cq1 := kept hb23 cq1; have er1 := er1.below hb23; have es1 := es1.below hb23; have eq1 := eq1.below hb23; have ho := ho.below hb23; have bc1 := kept hb23 bc1
            have x0 : (w22.alloc (.cells #[.slice (some ⟨g2, 0, none⟩) (u1_).length cap2] 22)).cell? ⟨w22.heap.size, 0, none⟩ = some (.slice (some ⟨g2, 0, none⟩) (u1_).length cap2) := by simp [go_sem]
            go_wp2_with fail
            have hz1 : Below wq.heap.size wq (w22.alloc (.cells #[.slice (some ⟨g2, 0, none⟩) (u1_).length cap2] 22)) := (by repeat (first | exact Below.refl _ _ | apply blw_drew | apply blw_alloc | (refine blw_set ?_ (by first | omega | (simp; done) | (simp; omega)) _) | refine below_chain ?_ (by assumption)))
            first | (refine hK _ _ ⟨hz1, ?_⟩; clear hK K) | refine ⟨hz1, ?_⟩
            clear hz1
            refine norm_K fun K hK => ?_
            change wpList _ _ _ [_, _, _] _ _
            go_wp2_with (at_builtin; refine appr_one rfl _ _ rfl w22 (w1.heap.size + 1) _ rfl uv us rfl (.slice (some ⟨g2, 0, none⟩) (u1_).length cap2) 1 rfl rfl hoW.ou (by have := hoW.bx.lt; simp; omega) (by have := HU.out; omega) ?_; intro g3 cap3 w3 hown3 hgb3 hg3 hge3; have bx' := hoW.bx.bl hgb3 (Nat.lt_succ_self _); have bc1 := bx'.c1; have bf1 := bx'.f1)
            first | (refine hK _ _ ⟨rfl, ?_⟩; clear hK K) | refine ⟨rfl, ?_⟩
            have hbz : Below w1.heap.size w1 (w3.setCell ⟨w1.heap.size, 1, none⟩ (.slice (some ⟨g3, 0, none⟩) (us.length + 1) cap3)) := blw_set ((show Below w1.heap.size w1 w22 from below_chain hba (by repeat (first | exact Below.refl _ _ | apply blw_drew | apply blw_alloc | (refine blw_set ?_ (by first | omega | (simp; done) | (simp; omega)) _) | refine below_chain ?_ (by assumption)))).trans (hgb3.mono HN.out)) HM.out _
            have hz := hoW.row (hv2.more (by have := hoA.bx.lt; first | omega | (simp; omega))) hf.1 hf.2 hown3 hgb3 hg3
            go_wp2_with fail
            go_roundw
            case rel => exact ⟨1 + 1, _, _, _, by omega, rfl, hz, hbz⟩
            case measure => simp [intOf]
          · skip
            have hx0 := hx0_.below hb
            have hx1 := hx1_.below hb
            have d00 := kept hb d00_
            have d01 := kept hb d01_
            have d10 := kept hb d10_
            have d11 := kept hb d11_
            have hr := hr_.below hb
            have ca1 := kept hb ca1_
            have cb1 := kept hb cb1_
            have cc1 := kept hb cc1_
            have cr1 := kept hb cr1_
            have cs1 := kept hb cs1_
            have cq1 := kept hb cq1_
            have er1 := er1_.below hb
            have es1 := es1_.below hb
            have eq1 := eq1_.below hb
            have bc0 := ho.bx.c0
            go_wp2
            go_wp2_with fail
            refine region_flow [(false, [(0, 0), (1, 1), (2, 0), (3, 1), (4, 0), (5, 0), (6, 0), (7, 0), (8, 0), (9, 1), (10, 5)]), (false, [(11, 4), (12, 0), (13, 4)])] (by kernel_rfl) ?_
            refine norm_K fun K hK => ?_
            change wpList _ _ _ [_, _, _, _, _, _, _, _, _, _, _] _ _
            have hb21 : Below wr.heap.size wr wr.drew := (by repeat (first | exact Below.refl _ _ | apply blw_drew | apply blw_alloc | (refine blw_set ?_ (by first | omega | (simp; done) | (simp; omega)) _) | refine below_chain ?_ (by assumption)))
            have hx0 := hx0.below hb21; have hx1 := hx1.below hb21; have d00 := kept hb21 d00; have d01 := kept hb21 d01; have d10 := kept hb21 d10; have d11 := kept hb21 d11; have hr := hr.below hb21; have ca1 := kept hb21 ca1; have cb1 := kept hb21 cb1; have cc1 := kept hb21 cc1; have cr1 := kept hb21 cr1; have cs1 := kept hb21 cs1; have cq1 := kept hb21 cq1; have er1 := er1.below hb21; have es1 := es1.below hb21; have eq1 := eq1.below hb21; have ho := ho.below hb21; have bc0 := kept hb21 bc0
            generalize wr.drew = wq at *
            have hoW := ho
            go_wp2_with fail
            have hb22 : Below wq.heap.size wq (wq.alloc (.cells #[.int .i64 b1_] 2)) := (by repeat (first | exact Below.refl _ _ | apply blw_drew | apply blw_alloc | (refine blw_set ?_ (by first | omega | (simp; done) | (simp; omega)) _) | refine below_chain ?_ (by assumption)))
            have hx0 := hx0.below hb22; have hx1 := hx1.below hb22; have d00 := kept hb22 d00; have d01 := kept hb22 d01; have d10 := kept hb22 d10; have d11 := kept hb22 d11; have hr := hr.below hb22; have ca1 := kept hb22 ca1; have cb1 := kept hb22 cb1; have cc1 := kept hb22 cc1; have cr1 := kept hb22 cr1; have cs1 := kept hb22 cs1; have cq1 := kept hb22 cq1; have er1 := er1.below hb22; have es1 := es1.below hb22; have eq1 := eq1.below hb22; have ho := ho.below hb22; have bc0 := kept hb22 bc0
            have hl : OwnI (wq.alloc (.cells #[.int .i64 b1_] 2)) wq.heap.size wq.heap.size [b1_].length [b1_].length [b1_] := OwnI.lit (Nat.le_refl _) [b1_] (by simp)
            go_wp2_with fail
            have hz0 : Below wq.heap.size wq (wq.alloc (.cells #[.int .i64 b1_] 2)) := (by repeat (first | exact Below.refl _ _ | apply blw_drew | apply blw_alloc | (refine blw_set ?_ (by first | omega | (simp; done) | (simp; omega)) _) | refine below_chain ?_ (by assumption)))
            first | (refine hK _ _ ⟨hz0, ?_⟩; clear hK K) | refine ⟨hz0, ?_⟩
            clear hz0
            refine norm_K fun K hK => ?_
            change wpList _ _ _ [_, _, _] _ _
            go_wp2_with (at_builtin; refine appn_one rfl _ _ rfl wq (w1.heap.size + 1) _ rfl dv (tdgS ⟨[a1_, b1_, c1_], [u1_, v1_, t1_]⟩ 2 2) rfl b1_ 1 rfl hoW.od (by have := hoW.bx.lt; simp; omega) (by have := HD.out; omega) ?_; intro g' cap' w' hown' hgb' hg' hge; have bx' := hoW.bx.bl hgb' (Nat.lt_succ_self _); have bc0 := bx'.c0; have bf0 := bx'.f0)
            first | (refine hK _ _ ⟨rfl, ?_⟩; clear hK K) | refine ⟨rfl, ?_⟩
            have hba : Below w1.heap.size w1 (w'.setCell ⟨w1.heap.size, 0, none⟩ (.slice (some ⟨g', 0, none⟩) ((tdgS ⟨[a1_, b1_, c1_], [u1_, v1_, t1_]⟩ 2 2).length + 1) cap')) := blw_set ((show Below w1.heap.size w1 wq from below_chain hb (by repeat (first | exact Below.refl _ _ | apply blw_drew | apply blw_alloc | (refine blw_set ?_ (by first | omega | (simp; done) | (simp; omega)) _) | refine below_chain ?_ (by assumption)))).trans (hgb'.mono HN.out)) HM.out _
            have ho := hoW.num (nv := .slice (some ⟨g', 0, none⟩) ((tdgS ⟨[a1_, b1_, c1_], [u1_, v1_, t1_]⟩ 2 2).length + 1) cap') rfl hown' hgb' hg' hge
            clear bc0 bf0 bx' hown'
            obtain ⟨wa, hwa⟩ : ∃ x, x = w'.setCell ⟨w1.heap.size, 0, none⟩ (.slice (some ⟨g', 0, none⟩) ((tdgS ⟨[a1_, b1_, c1_], [u1_, v1_, t1_]⟩ 2 2).length + 1) cap') := ⟨_, rfl⟩
            rw [← hwa] at hba ho ⊢; clear hwa
            have hx0 := hx0_.below hba
            have hx1 := hx1_.below hba
            have d00 := kept hba d00_
            have d01 := kept hba d01_
            have d10 := kept hba d10_
            have d11 := kept hba d11_
            have hr := hr_.below hba
            have ca1 := kept hba ca1_
            have cb1 := kept hba cb1_
            have cc1 := kept hba cc1_
            have cr1 := kept hba cr1_
            have cs1 := kept hba cs1_
            have cq1 := kept hba cq1_
            have er1 := er1_.below hba
            have es1 := es1_.below hba
            have eq1 := eq1_.below hba
            have bc1 := ho.bx.c1
            go_wp2
            go_wp2_with fail
            refine region_flow [(false, [(0, 0), (1, 1), (2, 0), (3, 1), (4, 0), (5, 0), (6, 0), (7, 0), (8, 0), (9, 1), (10, 5)]), (false, [(11, 5)]), (false, [(12, 4), (13, 0), (14, 4)])] (by kernel_rfl) ?_
            refine norm_K fun K hK => ?_
            change wpList _ _ _ [_, _, _, _, _, _, _, _, _, _, _] _ _
            have hb21 : Below wa.heap.size wa wa.drew := (by repeat (first | exact Below.refl _ _ | apply blw_drew | apply blw_alloc | (refine blw_set ?_ (by first | omega | (simp; done) | (simp; omega)) _) | refine below_chain ?_ (by assumption)))
            have hx0 := hx0.below hb21; have hx1 := hx1.below hb21; have d00 := kept hb21 d00; have d01 := kept hb21 d01; have d10 := kept hb21 d10; have d11 := kept hb21 d11; have hr := hr.below hb21; have ca1 := kept hb21 ca1; have cb1 := kept hb21 cb1; have cc1 := kept hb21 cc1; have cr1 := kept hb21 cr1; have cs1 := kept hb21 cs1; have cq1 := kept hb21 cq1; have er1 := er1.below hb21; have es1 := es1.below hb21; have eq1 := eq1.below hb21; have ho := ho.below hb21; have bc1 := kept hb21 bc1
            generalize wa.drew = wq at *
            have hoF := ho
            have hoA := ho
            go_wp2_with fail
            refine (clone_c es1.sl (by rw [LV.out]; omega) (by rw [LV.out]; omega)).mono ?_; rintro e w22 ⟨z1, rfl, hv2, hb22⟩
            have hx0 := hx0.below hb22; have hx1 := hx1.below hb22; have d00 := kept hb22 d00; have d01 := kept hb22 d01; have d10 := kept hb22 d10; have d11 := kept hb22 d11; have hr := hr.below hb22; have ca1 := kept hb22 ca1; have cb1 := kept hb22 cb1; have cc1 := kept hb22 cc1; have cr1 := kept hb22 cr1; have cs1 := kept hb22 cs1; have cq1 := kept hb22 cq1; have er1 := er1.below hb22; have es1 := es1.below hb22; have eq1 := eq1.below hb22; have ho := ho.below hb22; have bc1 := kept hb22 bc1
            go_wp2_with fail
            have hz0 : Below wq.heap.size wq w22 := (by repeat (first | exact Below.refl _ _ | apply blw_drew | apply blw_alloc | (refine blw_set ?_ (by first | omega | (simp; done) | (simp; omega)) _) | refine below_chain ?_ (by assumption)))
            first | (refine hK _ _ ⟨hz0, ?_⟩; clear hK K) | refine ⟨hz0, ?_⟩
            clear hz0
            refine norm_K fun K hK => ?_
            change wpList _ _ _ [_] _ _
            have hf := hoF.fresh hv2
            obtain ⟨g2, cap2, rfl, hv2o⟩ := id hv2
            have hoW := ho
            have hb23 : Below w22.heap.size w22 (w22.alloc (.cells #[.slice (some ⟨g2, 0, none⟩) (v1_).length cap2] 22)) := (by repeat (first | exact Below.refl _ _ | apply blw_drew | apply blw_alloc | (refine blw_set ?_ (by first | omega | (simp; done) | (simp; omega)) _) | refine below_chain ?_ (by assumption)))
            have hx0 := hx0.below hb23; have hx1 := hx1.below hb23; have d00 := kept hb23 d00; have d01 := kept hb23 d01; have d10 := kept hb23 d10; have d11 := kept hb23 d11; have hr := hr.below hb23; have ca1 := kept hb23 ca1; have cb1 := kept hb23 cb1; have cc1 := kept hb23 cc1; have cr1 := kept hb23 cr1; have cs1 := kept hb23 cs1; have cq1 := kept hb23 cq1; have er1 := er1.below hb23; have es1 := es1.below hb23; have eq1 := eq1.below hb23; have ho := ho.below hb23; have bc1 := kept hb23 bc1
            have x0 : (w22.alloc (.cells #[.slice (some ⟨g2, 0, none⟩) (v1_).length cap2] 22)).cell? ⟨w22.heap.size, 0, none⟩ = some (.slice (some ⟨g2, 0, none⟩) (v1_).length cap2) := by simp [go_sem]
            go_wp2_with fail
            have hz1 : Below wq.heap.size wq (w22.alloc (.cells #[.slice (some ⟨g2, 0, none⟩) (v1_).length cap2] 22)) := (by repeat (first | exact Below.refl _ _ | apply blw_drew | apply blw_alloc | (refine blw_set ?_ (by first | omega | (simp; done) | (simp; omega)) _) | refine below_chain ?_ (by assumption)))
            first | (refine hK _ _ ⟨hz1, ?_⟩; clear hK K) | refine ⟨hz1, ?_⟩
            clear hz1
            refine norm_K fun K hK => ?_
            change wpList _ _ _ [_, _, _] _ _
            go_wp2_with (at_builtin; refine appr_one rfl _ _ rfl w22 (w1.heap.size + 1) _ rfl uv us rfl (.slice (some ⟨g2, 0, none⟩) (v1_).length cap2) 1 rfl rfl hoW.ou (by have := hoW.bx.lt; simp; omega) (by have := HU.out; omega) ?_; intro g3 cap3 w3 hown3 hgb3 hg3 hge3; have bx' := hoW.bx.bl hgb3 (Nat.lt_succ_self _); have bc1 := bx'.c1; have bf1 := bx'.f1)
            first | (refine hK _ _ ⟨rfl, ?_⟩; clear hK K) | refine ⟨rfl, ?_⟩
            have hbz : Below w1.heap.size w1 (w3.setCell ⟨w1.heap.size, 1, none⟩ (.slice (some ⟨g3, 0, none⟩) (us.length + 1) cap3)) := blw_set ((show Below w1.heap.size w1 w22 from below_chain hba (by repeat (first | exact Below.refl _ _ | apply blw_drew | apply blw_alloc | (refine blw_set ?_ (by first | omega | (simp; done) | (simp; omega)) _) | refine below_chain ?_ (by assumption)))).trans (hgb3.mono HN.out)) HM.out _
            have hz := hoW.row (hv2.more (by have := hoA.bx.lt; first | omega | (simp; omega))) hf.1 hf.2 hown3 hgb3 hg3
            go_wp2_with fail
            go_roundw
            case rel => exact ⟨2 + 1, _, _, _, by omega, rfl, hz, hbz⟩
            case measure => simp [intOf]
          · skip
            have hx0 := hx0_.below hb
            have hx1 := hx1_.below hb
            have d00 := kept hb d00_
            have d01 := kept hb d01_
            have d10 := kept hb d10_
            have d11 := kept hb d11_
            have hr := hr_.below hb
            have ca1 := kept hb ca1_
            have cb1 := kept hb cb1_
            have cc1 := kept hb cc1_
            have cr1 := kept hb cr1_
            have cs1 := kept hb cs1_
            have cq1 := kept hb cq1_
            have er1 := er1_.below hb
            have es1 := es1_.below hb
            have eq1 := eq1_.below hb
            have hfr := ho.frh (by have := HD.out; omega) (by have := HU.out; omega)
            obtain ⟨gd, cd, rfl, _⟩ := ho.od.fr (by have := HD.out; omega)
            obtain ⟨gu, cu, rfl, _⟩ := World.ownsRow.form ho.ou (by have := HU.out; omega)
            have bc0 := ho.bx.c0; have bc1 := ho.bx.c1
            have rc0 := hr.c0; have rc1 := hr.c1; have rf0 := hr.f0; have rf1 := hr.f1
            have hbe := below_chain (show Below w.heap.size w w1 from (by repeat (first | exact Below.refl _ _ | apply blw_drew | apply blw_alloc | (refine blw_set ?_ (by first | omega | (simp; done) | (simp; omega)) _) | refine below_chain ?_ (by assumption)))) hb
            have hz1_ : w.heap.size + 1 + 1 + 1 + 1 ≤ w1.heap.size := by have := hb1.size; have := HWs.out; omega
            go_wp2_with fail
            refine bodyPost_ret (v := .tuple #[.agg #[.slice (some ⟨gd, 0, none⟩) (tdgS ⟨[a1_, b1_, c1_], [u1_, v1_, t1_]⟩ 2 3).length cd, .slice (some ⟨gu, 0, none⟩) us.length cu], .int .i64 0]) (by simp [results, Try.results33, go_sem, rc0, rc1]) rfl ⟨_, rfl, .inr ?_, ?_⟩
            · exact ((hfr.set_ (by first | omega | (simp; done) | (simp; omega)) _).set_ (by first | omega | (simp; done) | (simp; omega)) _).more (by omega)
            · exact blw_set (blw_set hbe (by first | omega | (simp; done) | (simp; omega)) _) (by first | omega | (simp; done) | (simp; omega)) _
    · have h3 : inR n2 0 2 = false := by simpa using h2
      have e1 : RTurnRows1 p0 st0 X1 n2 = 2 := by unfold RTurnRows1; rw [if_pos h0, if_neg h2]
      rw [show RTurnRows0 p0 st0 X1 n2 = ⟨[], []⟩ from if_neg (by rw [e1]; decide), e1]
      clear e1
      go_enter Try.func33, Try.ntmps33
      go_wp2_with fail
      refine hcon.mono ?_; rintro e w1 ⟨rfl, hb1⟩
      rw [← hW] at hb1
      clear hW hcon
      have hx0 := hx0.below hb1; have hx1 := hx1.below hb1; have d00 := kept hb1 d00; have d01 := kept hb1 d01; have d10 := kept hb1 d10; have d11 := kept hb1 d11; have hr := hr.below hb1
      go_wp2_with fail
      refine (inRange_c).mono ?_; rintro e w22 ⟨rfl, rfl⟩
      have rc0 := hr.c0; have rc1 := hr.c1; have rf0 := hr.f0; have rf1 := hr.f1
      go_wp2_with fail
      refine bodyPost_ret (v := .tuple #[.agg #[.slice none 0 0, .slice none 0 0], .int .i64 2]) (by simp [results, Try.results33, go_sem, rc0, rc1]) rfl ⟨_, rfl, .inl ⟨rfl, rfl⟩, ?_⟩
      exact blw_set (blw_set (by repeat (first | exact Below.refl _ _ | apply blw_drew | apply blw_alloc | (refine blw_set ?_ (by first | omega | (simp; done) | (simp; omega)) _) | refine below_chain ?_ (by assumption))) (by first | omega | (simp; done) | (simp; omega)) _) (by first | omega | (simp; done) | (simp; omega)) _
  · have e1 : RTurnRows1 p0 st0 X1 n2 = chkH p0 st0 [X1] := by unfold RTurnRows1; rw [if_neg h0]
    rw [show RTurnRows0 p0 st0 X1 n2 = ⟨[], []⟩ from if_neg (by rw [e1]; exact h0), e1]; clear e1
    obtain ⟨k, hk⟩ : ∃ k, k = chkH p0 st0 [X1] := ⟨_, rfl⟩
    rw [← hk] at h0 hcon ⊢
    clear hk
    have hne : (k == 0) = false := by simpa using h0
    go_enter Try.func33, Try.ntmps33
    go_wp2_with fail
    refine hcon.mono ?_; rintro e w1 ⟨rfl, hb1⟩
    rw [← hW] at hb1
    clear hW hcon
    have hr := hr.below hb1
    have rc0 := hr.c0; have rc1 := hr.c1; have rf0 := hr.f0; have rf1 := hr.f1
    go_wp2_with fail
    refine bodyPost_ret (v := .tuple #[.agg #[.slice none 0 0, .slice none 0 0], .int .i64 k]) (by simp [results, Try.results33, go_sem, rc0, rc1]) rfl ⟨_, rfl, .inl ⟨rfl, rfl⟩, ?_⟩
    exact blw_set (blw_set (by repeat (first | exact Below.refl _ _ | apply blw_drew | apply blw_alloc | (refine blw_set ?_ (by first | omega | (simp; done) | (simp; omega)) _) | refine below_chain ?_ (by assumption))) (by first | omega | (simp; done) | (simp; omega)) _) (by first | omega | (simp; done) | (simp; omega)) _
set_option maxHeartbeats 2000000 in
set_option maxRecDepth 100000 in
theorem sTurnRows_c {p0 : Int} {x0 : Value} {st0 : List Int} {x1 : Value} {X1 : Her} {n2 : Int} {w : World} (hx0 : El w x0 st0) (hm0 : st0.length ≤ 1048576) (hx1 : Hv w x1 X1) (hz1 : Hsz X1) (lo2 : -9223372036854775808 ≤ n2) (hi2 : n2 ≤ 9223372036854775807) :
    Calls Try.prog 32 #[.agg #[.int .i64 p0, x0], x1, .int .i64 n2] w fun e w' => ∃ v0, e = .returned (.tuple #[v0, .int .i64 (RTurnRows1 p0 st0 X1 n2)]) ∧ OwH w' w.heap.size v0 (RTurnRows0 p0 st0 X1 n2) ∧ Below w.heap.size w w' := by
  obtain ⟨a0, c0, rfl, _⟩ := id hx0.op
  obtain ⟨dv1, uv1, rfl, hd1_, hu1_⟩ := id hx1; obtain ⟨a1, c1, rfl, _⟩ := id hd1_.op; obtain ⟨b1, e1, rfl, _⟩ := id hu1_; clear hd1_ hu1_
  obtain ⟨W, hW⟩ : ∃ W, W = ((((w.alloc (.cells #[.int .i64 p0, .slice a0 st0.length c0] 28)).alloc (.cells #[.slice a1 X1.dg.length c1, .slice b1 X1.up.length e1] 38)).alloc (.cells #[.slice none 0 0, .slice none 0 0] 38)).alloc (.cells #[.slice a1 X1.dg.length c1, .slice b1 X1.up.length e1] 38)) := ⟨_, rfl⟩
  have hbW : Below w.heap.size w W := by rw [hW]; exact (by repeat (first | exact Below.refl _ _ | apply blw_drew | apply blw_alloc | (refine blw_set ?_ (by first | omega | (simp; done) | (simp; omega)) _) | refine below_chain ?_ (by assumption)))
  have hx0 := hx0.below hbW
  have hx1 := hx1.below hbW
  have d00 : W.cell? ⟨w.heap.size, 0, none⟩ = some (.int .i64 p0) := by rw [hW]; simp [go_sem]
  have d01 : W.cell? ⟨w.heap.size, 1, none⟩ = some (.slice a0 st0.length c0) := by rw [hW]; simp [go_sem]
  have d10 : W.cell? ⟨w.heap.size + 1, 0, none⟩ = some (.slice a1 X1.dg.length c1) := by rw [hW]; simp [go_sem]
  have d11 : W.cell? ⟨w.heap.size + 1, 1, none⟩ = some (.slice b1 X1.up.length e1) := by rw [hW]; simp [go_sem]
  have hr : Bx W (w.heap.size + 1 + 1) (.slice none 0 0) (.slice none 0 0) := by rw [hW]; exact Bx.below (by unfold Bx; rw [show w.heap.size + 1 + 1 = ((w.alloc (.cells #[.int .i64 p0, .slice a0 st0.length c0] 28)).alloc (.cells #[.slice a1 X1.dg.length c1, .slice b1 X1.up.length e1] 38)).heap.size by simp]; exact heap_alloc_new _ _) (by repeat (first | exact Below.refl _ _ | apply blw_drew | apply blw_alloc | (refine blw_set ?_ (by first | omega | (simp; done) | (simp; omega)) _) | refine below_chain ?_ (by assumption)))
  have hWs : W.heap.size = w.heap.size + 1 + 1 + 1 + 1 := by rw [hW]; simp
  have gl : Lh W (.slice (some ⟨w.heap.size + 1 + 1 + 1, 0, none⟩) 1 1) [X1] := Lh.one hx1 (by rw [hW]; simp [go_sem]) (by rw [hW]; simp [go_sem])
  have hcon := sl16_c (p := p0) hx0 hm0 gl (by intro X hX; simp at hX; subst hX; exact hz1) (by simp)
  have HWs := Lib.hid hWs; clear hWs
  rw [hW] at hcon
  by_cases h0 : chkH p0 st0 [X1] = 0
  · rw [h0] at hcon
    obtain ⟨hd, hall⟩ := chkH_pos h0
    have hX1 : isH p0 (sz st0.length) X1 = true := by simp at hall; exact hall
    clear hall
    have hp1 := hd.hp.lo; have hp2 := hd.hp.hi; have hsz := sz_le hd
    by_cases h2 : inR n2 0 2 = true
    · have hb2 : 0 ≤ n2 ∧ n2 ≤ 2 := by simpa [inR] using h2
      rcases (show n2 = 0 ∨ n2 = 1 ∨ n2 = 2 by omega) with rfl | rfl | rfl
      · have h2 : inR 0 0 2 = true := by decide
        have e1 : RTurnRows1 p0 st0 X1 0 = 0 := by unfold RTurnRows1; rw [if_pos h0]; rfl
        rw [show RTurnRows0 p0 st0 X1 0 = ⟨tdgS X1 0 3, tupS X1 0 3⟩ from if_pos e1, e1]
        clear e1
        obtain ⟨a1_, b1_, c1_, u1_, v1_, t1_, bd1, od1, cd1, bu1, ou1, cu1, r1_, s1_, q1_, rfl, e_, ba1, bb1, bc1_, eu1, ev1, et1, ca1, cb1, cc1, cr1, cs1, cq1, er1, es1, eq1, kd1, ku1⟩ := Hv.op3 hx1 hX1
        cases e_
        have LU := Lib.hid eu1.1; have LV := Lib.hid ev1.1; have LT := Lib.hid et1.1
        clear kd1 ku1
        go_enter Try.func32, Try.ntmps32
        go_wp2_with fail
        refine hcon.mono ?_; rintro e w1 ⟨rfl, hb1⟩
        rw [← hW] at hb1
        clear hW hcon
        have hx0 := hx0.below hb1; have hx1 := hx1.below hb1; have d00 := kept hb1 d00; have d01 := kept hb1 d01; have d10 := kept hb1 d10; have d11 := kept hb1 d11; have hr := hr.below hb1; have ca1 := kept hb1 ca1; have cb1 := kept hb1 cb1; have cc1 := kept hb1 cc1; have cr1 := kept hb1 cr1; have cs1 := kept hb1 cs1; have cq1 := kept hb1 cq1; have er1 := er1.below hb1; have es1 := es1.below hb1; have eq1 := eq1.below hb1
        go_wp2_with fail
        refine (sin_c).mono ?_; rintro e w22 ⟨rfl, rfl⟩
        have HN := Lib.hid (Nat.le_succ w1.heap.size); have HM := Lib.hid (Nat.le_refl w1.heap.size)
        have hx0_ := hx0
        have hx1_ := hx1
        have d00_ := d00
        have d01_ := d01
        have d10_ := d10
        have d11_ := d11
        have hr_ := hr
        have ca1_ := ca1
        have cb1_ := cb1
        have cc1_ := cc1
        have cr1_ := cr1
        have cs1_ := cs1
        have cq1_ := cq1
        have er1_ := er1
        have es1_ := es1
        have eq1_ := eq1
        go_wp2
        go_loopw [10] (fun i wr => ∃ (k : Nat) (dv uv : Value) (us : List Value), k ≤ 3 ∧ i = .int .i64 k ∧ Out wr w1.heap.size dv uv us (tdgS ⟨[a1_, b1_, c1_], [u1_, v1_, t1_]⟩ 0 k) (tupS ⟨[a1_, b1_, c1_], [u1_, v1_, t1_]⟩ 0 k) ∧ Below w1.heap.size w1 wr) (fun i _ => 3 - (intOf i).toNat)
        case atStart => exact ⟨0, _, _, [], by omega, rfl, Out.start (heap_alloc_new w1 _), (by repeat (first | exact Below.refl _ _ | apply blw_drew | apply blw_alloc | (refine blw_set ?_ (by first | omega | (simp; done) | (simp; omega)) _) | refine below_chain ?_ (by assumption)))⟩
        case round =>
          obtain ⟨k, dv, uv, us, hk, rfl, ho, hb⟩ := hrel
          have HD := Lib.hid (tdgS_len (X := ⟨[a1_, b1_, c1_], [u1_, v1_, t1_]⟩) (k := 0) k)
          have HU := Lib.hid (ho.ul.trans (tupS_len k))
          rcases (show k = 0 ∨ k = 1 ∨ k = 2 ∨ k = 3 by omega) with rfl | rfl | rfl | rfl
          · skip
            have hx0 := hx0_.below hb
            have hx1 := hx1_.below hb
            have d00 := kept hb d00_
            have d01 := kept hb d01_
            have d10 := kept hb d10_
            have d11 := kept hb d11_
            have hr := hr_.below hb
            have ca1 := kept hb ca1_
            have cb1 := kept hb cb1_
            have cc1 := kept hb cc1_
            have cr1 := kept hb cr1_
            have cs1 := kept hb cs1_
            have cq1 := kept hb cq1_
            have er1 := er1_.below hb
            have es1 := es1_.below hb
            have eq1 := eq1_.below hb
            have bc0 := ho.bx.c0
            go_wp2
            go_wp2_with fail
            refine region_flow [(false, [(0, 0), (1, 1), (2, 0), (3, 1), (4, 0), (5, 0), (6, 0), (7, 0), (8, 0), (9, 1), (10, 5)]), (false, [(11, 4), (12, 0), (13, 4)])] (by kernel_rfl) ?_
            refine norm_K fun K hK => ?_
            change wpList _ _ _ [_, _, _, _, _, _, _, _, _, _, _] _ _
            have hb21 : Below wr.heap.size wr wr.drew := (by repeat (first | exact Below.refl _ _ | apply blw_drew | apply blw_alloc | (refine blw_set ?_ (by first | omega | (simp; done) | (simp; omega)) _) | refine below_chain ?_ (by assumption)))
            have hx0 := hx0.below hb21; have hx1 := hx1.below hb21; have d00 := kept hb21 d00; have d01 := kept hb21 d01; have d10 := kept hb21 d10; have d11 := kept hb21 d11; have hr := hr.below hb21; have ca1 := kept hb21 ca1; have cb1 := kept hb21 cb1; have cc1 := kept hb21 cc1; have cr1 := kept hb21 cr1; have cs1 := kept hb21 cs1; have cq1 := kept hb21 cq1; have er1 := er1.below hb21; have es1 := es1.below hb21; have eq1 := eq1.below hb21; have ho := ho.below hb21; have bc0 := kept hb21 bc0
            generalize wr.drew = wq at *
            have hoW := ho
            go_wp2_with fail
            have hb22 : Below wq.heap.size wq (wq.alloc (.cells #[.int .i64 a1_] 2)) := (by repeat (first | exact Below.refl _ _ | apply blw_drew | apply blw_alloc | (refine blw_set ?_ (by first | omega | (simp; done) | (simp; omega)) _) | refine below_chain ?_ (by assumption)))
            have hx0 := hx0.below hb22; have hx1 := hx1.below hb22; have d00 := kept hb22 d00; have d01 := kept hb22 d01; have d10 := kept hb22 d10; have d11 := kept hb22 d11; have hr := hr.below hb22; have ca1 := kept hb22 ca1; have cb1 := kept hb22 cb1; have cc1 := kept hb22 cc1; have cr1 := kept hb22 cr1; have cs1 := kept hb22 cs1; have cq1 := kept hb22 cq1; have er1 := er1.below hb22; have es1 := es1.below hb22; have eq1 := eq1.below hb22; have ho := ho.below hb22; have bc0 := kept hb22 bc0
            have hl : OwnI (wq.alloc (.cells #[.int .i64 a1_] 2)) wq.heap.size wq.heap.size [a1_].length [a1_].length [a1_] := OwnI.lit (Nat.le_refl _) [a1_] (by simp)
            go_wp2_with fail
            have hz0 : Below wq.heap.size wq (wq.alloc (.cells #[.int .i64 a1_] 2)) := (by repeat (first | exact Below.refl _ _ | apply blw_drew | apply blw_alloc | (refine blw_set ?_ (by first | omega | (simp; done) | (simp; omega)) _) | refine below_chain ?_ (by assumption)))
            first | (refine hK _ _ ⟨hz0, ?_⟩; clear hK K) | refine ⟨hz0, ?_⟩
            clear hz0
            refine norm_K fun K hK => ?_
            change wpList _ _ _ [_, _, _] _ _
            go_wp2_with (at_builtin; refine appn_one rfl _ _ rfl wq (w1.heap.size + 1) _ rfl dv (tdgS ⟨[a1_, b1_, c1_], [u1_, v1_, t1_]⟩ 0 0) rfl a1_ 1 rfl hoW.od (by have := hoW.bx.lt; simp; omega) (by have := HD.out; omega) ?_; intro g' cap' w' hown' hgb' hg' hge; have bx' := hoW.bx.bl hgb' (Nat.lt_succ_self _); have bc0 := bx'.c0; have bf0 := bx'.f0)
            first | (refine hK _ _ ⟨rfl, ?_⟩; clear hK K) | refine ⟨rfl, ?_⟩
            have hba : Below w1.heap.size w1 (w'.setCell ⟨w1.heap.size, 0, none⟩ (.slice (some ⟨g', 0, none⟩) ((tdgS ⟨[a1_, b1_, c1_], [u1_, v1_, t1_]⟩ 0 0).length + 1) cap')) := blw_set ((show Below w1.heap.size w1 wq from below_chain hb (by repeat (first | exact Below.refl _ _ | apply blw_drew | apply blw_alloc | (refine blw_set ?_ (by first | omega | (simp; done) | (simp; omega)) _) | refine below_chain ?_ (by assumption)))).trans (hgb'.mono HN.out)) HM.out _
            have ho := hoW.num (nv := .slice (some ⟨g', 0, none⟩) ((tdgS ⟨[a1_, b1_, c1_], [u1_, v1_, t1_]⟩ 0 0).length + 1) cap') rfl hown' hgb' hg' hge
            clear bc0 bf0 bx' hown'
            obtain ⟨wa, hwa⟩ : ∃ x, x = w'.setCell ⟨w1.heap.size, 0, none⟩ (.slice (some ⟨g', 0, none⟩) ((tdgS ⟨[a1_, b1_, c1_], [u1_, v1_, t1_]⟩ 0 0).length + 1) cap') := ⟨_, rfl⟩
            rw [← hwa] at hba ho ⊢; clear hwa
            have hx0 := hx0_.below hba
            have hx1 := hx1_.below hba
            have d00 := kept hba d00_
            have d01 := kept hba d01_
            have d10 := kept hba d10_
            have d11 := kept hba d11_
            have hr := hr_.below hba
            have ca1 := kept hba ca1_
            have cb1 := kept hba cb1_
            have cc1 := kept hba cc1_
            have cr1 := kept hba cr1_
            have cs1 := kept hba cs1_
            have cq1 := kept hba cq1_
            have er1 := er1_.below hba
            have es1 := es1_.below hba
            have eq1 := eq1_.below hba
            have bc1 := ho.bx.c1
            go_wp2
            go_wp2_with fail
            refine region_flow [(false, [(0, 0), (1, 1), (2, 0), (3, 1), (4, 0), (5, 0), (6, 0), (7, 0), (8, 0), (9, 1), (10, 5)]), (false, [(11, 5)]), (false, [(12, 4), (13, 0), (14, 4)])] (by kernel_rfl) ?_
            refine norm_K fun K hK => ?_
            change wpList _ _ _ [_, _, _, _, _, _, _, _, _, _, _] _ _
            have hb21 : Below wa.heap.size wa wa.drew := (by repeat (first | exact Below.refl _ _ | apply blw_drew | apply blw_alloc | (refine blw_set ?_ (by first | omega | (simp; done) | (simp; omega)) _) | refine below_chain ?_ (by assumption)))
            have hx0 := hx0.below hb21; have hx1 := hx1.below hb21; have d00 := kept hb21 d00; have d01 := kept hb21 d01; have d10 := kept hb21 d10; have d11 := kept hb21 d11; have hr := hr.below hb21; have ca1 := kept hb21 ca1; have cb1 := kept hb21 cb1; have cc1 := kept hb21 cc1; have cr1 := kept hb21 cr1; have cs1 := kept hb21 cs1; have cq1 := kept hb21 cq1; have er1 := er1.below hb21; have es1 := es1.below hb21; have eq1 := eq1.below hb21; have ho := ho.below hb21; have bc1 := kept hb21 bc1
            generalize wa.drew = wq at *
            have hoF := ho
            have hoA := ho
            go_wp2_with fail
            refine (own_c er1.sl (by rw [LU.out]; omega) (by rw [LU.out]; omega)).mono ?_; rintro e w22 ⟨z1, rfl, hv2, hb22⟩
            have hx0 := hx0.below hb22; have hx1 := hx1.below hb22; have d00 := kept hb22 d00; have d01 := kept hb22 d01; have d10 := kept hb22 d10; have d11 := kept hb22 d11; have hr := hr.below hb22; have ca1 := kept hb22 ca1; have cb1 := kept hb22 cb1; have cc1 := kept hb22 cc1; have cr1 := kept hb22 cr1; have cs1 := kept hb22 cs1; have cq1 := kept hb22 cq1; have er1 := er1.below hb22; have es1 := es1.below hb22; have eq1 := eq1.below hb22; have ho := ho.below hb22; have bc1 := kept hb22 bc1
            go_wp2_with fail
            have hz0 : Below wq.heap.size wq w22 := (by repeat (first | exact Below.refl _ _ | apply blw_drew | apply blw_alloc | (refine blw_set ?_ (by first | omega | (simp; done) | (simp; omega)) _) | refine below_chain ?_ (by assumption)))
            first | (refine hK _ _ ⟨hz0, ?_⟩; clear hK K) | refine ⟨hz0, ?_⟩
            clear hz0
            refine norm_K fun K hK => ?_
            change wpList _ _ _ [_] _ _
            have hf := hoF.fresh hv2
            obtain ⟨g2, cap2, rfl, hv2o⟩ := id hv2
            have hoW := ho
            have hb23 : Below w22.heap.size w22 (w22.alloc (.cells #[.slice (some ⟨g2, 0, none⟩) (u1_).length cap2] 22)) := (by repeat (first | exact Below.refl _ _ | apply blw_drew | apply blw_alloc | (refine blw_set ?_ (by first | omega | (simp; done) | (simp; omega)) _) | refine below_chain ?_ (by assumption)))
            have hx0 := hx0.below hb23; have hx1 := hx1.below hb23; have d00 := kept hb23 d00; have d01 := kept hb23 d01; have d10 := kept hb23 d10; have d11 := kept hb23 d11; have hr := hr.below hb23; have ca1 := kept hb23 ca1; have cb1 := kept hb23 cb1; have cc1 := kept hb23 cc1; have cr1 := kept hb23 cr1; have cs1 := kept hb23 cs1; have cq1 := kept hb23 cq1; have er1 := er1.below hb23; have es1 := es1.below hb23; have eq1 := eq1.below hb23; have ho := ho.below hb23; have bc1 := kept hb23 bc1
            have x0 : (w22.alloc (.cells #[.slice (some ⟨g2, 0, none⟩) (u1_).length cap2] 22)).cell? ⟨w22.heap.size, 0, none⟩ = some (.slice (some ⟨g2, 0, none⟩) (u1_).length cap2) := by simp [go_sem]
            go_wp2_with fail
            have hz1 : Below wq.heap.size wq (w22.alloc (.cells #[.slice (some ⟨g2, 0, none⟩) (u1_).length cap2] 22)) := (by repeat (first | exact Below.refl _ _ | apply blw_drew | apply blw_alloc | (refine blw_set ?_ (by first | omega | (simp; done) | (simp; omega)) _) | refine below_chain ?_ (by assumption)))
            first | (refine hK _ _ ⟨hz1, ?_⟩; clear hK K) | refine ⟨hz1, ?_⟩
            clear hz1
            refine norm_K fun K hK => ?_
            change wpList _ _ _ [_, _, _] _ _
            go_wp2_with (at_builtin; refine appr_one rfl _ _ rfl w22 (w1.heap.size + 1) _ rfl uv us rfl (.slice (some ⟨g2, 0, none⟩) (u1_).length cap2) 1 rfl rfl hoW.ou (by have := hoW.bx.lt; simp; omega) (by have := HU.out; omega) ?_; intro g3 cap3 w3 hown3 hgb3 hg3 hge3; have bx' := hoW.bx.bl hgb3 (Nat.lt_succ_self _); have bc1 := bx'.c1; have bf1 := bx'.f1)
            first | (refine hK _ _ ⟨rfl, ?_⟩; clear hK K) | refine ⟨rfl, ?_⟩
            have hbz : Below w1.heap.size w1 (w3.setCell ⟨w1.heap.size, 1, none⟩ (.slice (some ⟨g3, 0, none⟩) (us.length + 1) cap3)) := blw_set ((show Below w1.heap.size w1 w22 from below_chain hba (by repeat (first | exact Below.refl _ _ | apply blw_drew | apply blw_alloc | (refine blw_set ?_ (by first | omega | (simp; done) | (simp; omega)) _) | refine below_chain ?_ (by assumption)))).trans (hgb3.mono HN.out)) HM.out _
            have hz := hoW.row (hv2.more (by have := hoA.bx.lt; first | omega | (simp; omega))) hf.1 hf.2 hown3 hgb3 hg3
            go_wp2_with fail
            go_roundw
            case rel => exact ⟨0 + 1, _, _, _, by omega, rfl, hz, hbz⟩
            case measure => simp [intOf]
          · skip
            have hx0 := hx0_.below hb
            have hx1 := hx1_.below hb
            have d00 := kept hb d00_
            have d01 := kept hb d01_
            have d10 := kept hb d10_
            have d11 := kept hb d11_
            have hr := hr_.below hb
            have ca1 := kept hb ca1_
            have cb1 := kept hb cb1_
            have cc1 := kept hb cc1_
            have cr1 := kept hb cr1_
            have cs1 := kept hb cs1_
            have cq1 := kept hb cq1_
            have er1 := er1_.below hb
            have es1 := es1_.below hb
            have eq1 := eq1_.below hb
            have bc0 := ho.bx.c0
            go_wp2
            go_wp2_with fail
            refine region_flow [(false, [(0, 0), (1, 1), (2, 0), (3, 1), (4, 0), (5, 0), (6, 0), (7, 0), (8, 0), (9, 1), (10, 5)]), (false, [(11, 4), (12, 0), (13, 4)])] (by kernel_rfl) ?_
            refine norm_K fun K hK => ?_
            change wpList _ _ _ [_, _, _, _, _, _, _, _, _, _, _] _ _
            have hb21 : Below wr.heap.size wr wr.drew := (by repeat (first | exact Below.refl _ _ | apply blw_drew | apply blw_alloc | (refine blw_set ?_ (by first | omega | (simp; done) | (simp; omega)) _) | refine below_chain ?_ (by assumption)))
            have hx0 := hx0.below hb21; have hx1 := hx1.below hb21; have d00 := kept hb21 d00; have d01 := kept hb21 d01; have d10 := kept hb21 d10; have d11 := kept hb21 d11; have hr := hr.below hb21; have ca1 := kept hb21 ca1; have cb1 := kept hb21 cb1; have cc1 := kept hb21 cc1; have cr1 := kept hb21 cr1; have cs1 := kept hb21 cs1; have cq1 := kept hb21 cq1; have er1 := er1.below hb21; have es1 := es1.below hb21; have eq1 := eq1.below hb21; have ho := ho.below hb21; have bc0 := kept hb21 bc0
            generalize wr.drew = wq at *
            have hoW := ho
            go_wp2_with fail
            have hb22 : Below wq.heap.size wq (wq.alloc (.cells #[.int .i64 b1_] 2)) := (by repeat (first | exact Below.refl _ _ | apply blw_drew | apply blw_alloc | (refine blw_set ?_ (by first | omega | (simp; done) | (simp; omega)) _) | refine below_chain ?_ (by assumption)))
            have hx0 := hx0.below hb22; have hx1 := hx1.below hb22; have d00 := kept hb22 d00; have d01 := kept hb22 d01; have d10 := kept hb22 d10; have d11 := kept hb22 d11; have hr := hr.below hb22; have ca1 := kept hb22 ca1; have cb1 := kept hb22 cb1; have cc1 := kept hb22 cc1; have cr1 := kept hb22 cr1; have cs1 := kept hb22 cs1; have cq1 := kept hb22 cq1; have er1 := er1.below hb22; have es1 := es1.below hb22; have eq1 := eq1.below hb22; have ho := ho.below hb22; have bc0 := kept hb22 bc0
            have hl : OwnI (wq.alloc (.cells #[.int .i64 b1_] 2)) wq.heap.size wq.heap.size [b1_].length [b1_].length [b1_] := OwnI.lit (Nat.le_refl _) [b1_] (by simp)
            go_wp2_with fail
            have hz0 : Below wq.heap.size wq (wq.alloc (.cells #[.int .i64 b1_] 2)) := (by repeat (first | exact Below.refl _ _ | apply blw_drew | apply blw_alloc | (refine blw_set ?_ (by first | omega | (simp; done) | (simp; omega)) _) | refine below_chain ?_ (by assumption)))
            first | (refine hK _ _ ⟨hz0, ?_⟩; clear hK K) | refine ⟨hz0, ?_⟩
            clear hz0
            refine norm_K fun K hK => ?_
            change wpList _ _ _ [_, _, _] _ _
            go_wp2_with (at_builtin; refine appn_one rfl _ _ rfl wq (w1.heap.size + 1) _ rfl dv (tdgS ⟨[a1_, b1_, c1_], [u1_, v1_, t1_]⟩ 0 1) rfl b1_ 1 rfl hoW.od (by have := hoW.bx.lt; simp; omega) (by have := HD.out; omega) ?_; intro g' cap' w' hown' hgb' hg' hge; have bx' := hoW.bx.bl hgb' (Nat.lt_succ_self _); have bc0 := bx'.c0; have bf0 := bx'.f0)
            first | (refine hK _ _ ⟨rfl, ?_⟩; clear hK K) | refine ⟨rfl, ?_⟩
            have hba : Below w1.heap.size w1 (w'.setCell ⟨w1.heap.size, 0, none⟩ (.slice (some ⟨g', 0, none⟩) ((tdgS ⟨[a1_, b1_, c1_], [u1_, v1_, t1_]⟩ 0 1).length + 1) cap')) := blw_set ((show Below w1.heap.size w1 wq from below_chain hb (by repeat (first | exact Below.refl _ _ | apply blw_drew | apply blw_alloc | (refine blw_set ?_ (by first | omega | (simp; done) | (simp; omega)) _) | refine below_chain ?_ (by assumption)))).trans (hgb'.mono HN.out)) HM.out _
            have ho := hoW.num (nv := .slice (some ⟨g', 0, none⟩) ((tdgS ⟨[a1_, b1_, c1_], [u1_, v1_, t1_]⟩ 0 1).length + 1) cap') rfl hown' hgb' hg' hge
            clear bc0 bf0 bx' hown'
            obtain ⟨wa, hwa⟩ : ∃ x, x = w'.setCell ⟨w1.heap.size, 0, none⟩ (.slice (some ⟨g', 0, none⟩) ((tdgS ⟨[a1_, b1_, c1_], [u1_, v1_, t1_]⟩ 0 1).length + 1) cap') := ⟨_, rfl⟩
            rw [← hwa] at hba ho ⊢; clear hwa
            have hx0 := hx0_.below hba
            have hx1 := hx1_.below hba
            have d00 := kept hba d00_
            have d01 := kept hba d01_
            have d10 := kept hba d10_
            have d11 := kept hba d11_
            have hr := hr_.below hba
            have ca1 := kept hba ca1_
            have cb1 := kept hba cb1_
            have cc1 := kept hba cc1_
            have cr1 := kept hba cr1_
            have cs1 := kept hba cs1_
            have cq1 := kept hba cq1_
            have er1 := er1_.below hba
            have es1 := es1_.below hba
            have eq1 := eq1_.below hba
            have bc1 := ho.bx.c1
            go_wp2
            go_wp2_with fail
            refine region_flow [(false, [(0, 0), (1, 1), (2, 0), (3, 1), (4, 0), (5, 0), (6, 0), (7, 0), (8, 0), (9, 1), (10, 5)]), (false, [(11, 5)]), (false, [(12, 4), (13, 0), (14, 4)])] (by kernel_rfl) ?_
            refine norm_K fun K hK => ?_
            change wpList _ _ _ [_, _, _, _, _, _, _, _, _, _, _] _ _
            have hb21 : Below wa.heap.size wa wa.drew := (by repeat (first | exact Below.refl _ _ | apply blw_drew | apply blw_alloc | (refine blw_set ?_ (by first | omega | (simp; done) | (simp; omega)) _) | refine below_chain ?_ (by assumption)))
            have hx0 := hx0.below hb21; have hx1 := hx1.below hb21; have d00 := kept hb21 d00; have d01 := kept hb21 d01; have d10 := kept hb21 d10; have d11 := kept hb21 d11; have hr := hr.below hb21; have ca1 := kept hb21 ca1; have cb1 := kept hb21 cb1; have cc1 := kept hb21 cc1; have cr1 := kept hb21 cr1; have cs1 := kept hb21 cs1; have cq1 := kept hb21 cq1; have er1 := er1.below hb21; have es1 := es1.below hb21; have eq1 := eq1.below hb21; have ho := ho.below hb21; have bc1 := kept hb21 bc1
            generalize wa.drew = wq at *
            have hoF := ho
            have hoA := ho
            go_wp2_with fail
            refine (own_c es1.sl (by rw [LV.out]; omega) (by rw [LV.out]; omega)).mono ?_; rintro e w22 ⟨z1, rfl, hv2, hb22⟩
            have hx0 := hx0.below hb22; have hx1 := hx1.below hb22; have d00 := kept hb22 d00; have d01 := kept hb22 d01; have d10 := kept hb22 d10; have d11 := kept hb22 d11; have hr := hr.below hb22; have ca1 := kept hb22 ca1; have cb1 := kept hb22 cb1; have cc1 := kept hb22 cc1; have cr1 := kept hb22 cr1; have cs1 := kept hb22 cs1; have cq1 := kept hb22 cq1; have er1 := er1.below hb22; have es1 := es1.below hb22; have eq1 := eq1.below hb22; have ho := ho.below hb22; have bc1 := kept hb22 bc1
            go_wp2_with fail
            have hz0 : Below wq.heap.size wq w22 := (by repeat (first | exact Below.refl _ _ | apply blw_drew | apply blw_alloc | (refine blw_set ?_ (by first | omega | (simp; done) | (simp; omega)) _) | refine below_chain ?_ (by assumption)))
            first | (refine hK _ _ ⟨hz0, ?_⟩; clear hK K) | refine ⟨hz0, ?_⟩
            clear hz0
            refine norm_K fun K hK => ?_
            change wpList _ _ _ [_] _ _
            have hf := hoF.fresh hv2
            obtain ⟨g2, cap2, rfl, hv2o⟩ := id hv2
            have hoW := ho
            have hb23 : Below w22.heap.size w22 (w22.alloc (.cells #[.slice (some ⟨g2, 0, none⟩) (v1_).length cap2] 22)) := (by repeat (first | exact Below.refl _ _ | apply blw_drew | apply blw_alloc | (refine blw_set ?_ (by first | omega | (simp; done) | (simp; omega)) _) | refine below_chain ?_ (by assumption)))
            have hx0 := hx0.below hb23; have hx1 := hx1.below hb23; have d00 := kept hb23 d00; have d01 := kept hb23 d01; have d10 := kept hb23 d10; have d11 := kept hb23 d11; have hr := hr.below hb23; have ca1 := kept hb23 ca1; have cb1 := kept hb23 cb1; have cc1 := kept hb23 cc1; have cr1 := kept hb23 cr1; have cs1 := kept hb23 cs1; have cq1 := kept hb23 cq1; have er1 := er1.below hb23; have es1 := es1.below hb23; have eq1 := eq1.below hb23; have ho := ho.below hb23; have bc1 := kept hb23 bc1
            have x0 : (w22.alloc (.cells #[.slice (some ⟨g2, 0, none⟩) (v1_).length cap2] 22)).cell? ⟨w22.heap.size, 0, none⟩ = some (.slice (some ⟨g2, 0, none⟩) (v1_).length cap2) := by simp [go_sem]
            go_wp2_with fail
            have hz1 : Below wq.heap.size wq (w22.alloc (.cells #[.slice (some ⟨g2, 0, none⟩) (v1_).length cap2] 22)) := (by repeat (first | exact Below.refl _ _ | apply blw_drew | apply blw_alloc | (refine blw_set ?_ (by first | omega | (simp; done) | (simp; omega)) _) | refine below_chain ?_ (by assumption)))
            first | (refine hK _ _ ⟨hz1, ?_⟩; clear hK K) | refine ⟨hz1, ?_⟩
            clear hz1
            refine norm_K fun K hK => ?_
            change wpList _ _ _ [_, _, _] _ _
            go_wp2_with (at_builtin; refine appr_one rfl _ _ rfl w22 (w1.heap.size + 1) _ rfl uv us rfl (.slice (some ⟨g2, 0, none⟩) (v1_).length cap2) 1 rfl rfl hoW.ou (by have := hoW.bx.lt; simp; omega) (by have := HU.out; omega) ?_; intro g3 cap3 w3 hown3 hgb3 hg3 hge3; have bx' := hoW.bx.bl hgb3 (Nat.lt_succ_self _); have bc1 := bx'.c1; have bf1 := bx'.f1)
            first | (refine hK _ _ ⟨rfl, ?_⟩; clear hK K) | refine ⟨rfl, ?_⟩
            have hbz : Below w1.heap.size w1 (w3.setCell ⟨w1.heap.size, 1, none⟩ (.slice (some ⟨g3, 0, none⟩) (us.length + 1) cap3)) := blw_set ((show Below w1.heap.size w1 w22 from below_chain hba (by repeat (first | exact Below.refl _ _ | apply blw_drew | apply blw_alloc | (refine blw_set ?_ (by first | omega | (simp; done) | (simp; omega)) _) | refine below_chain ?_ (by assumption)))).trans (hgb3.mono HN.out)) HM.out _
            have hz := hoW.row (hv2.more (by have := hoA.bx.lt; first | omega | (simp; omega))) hf.1 hf.2 hown3 hgb3 hg3
            go_wp2_with fail
            go_roundw
            case rel => exact ⟨1 + 1, _, _, _, by omega, rfl, hz, hbz⟩
            case measure => simp [intOf]
          · skip
            have hx0 := hx0_.below hb
            have hx1 := hx1_.below hb
            have d00 := kept hb d00_
            have d01 := kept hb d01_
            have d10 := kept hb d10_
            have d11 := kept hb d11_
            have hr := hr_.below hb
            have ca1 := kept hb ca1_
            have cb1 := kept hb cb1_
            have cc1 := kept hb cc1_
            have cr1 := kept hb cr1_
            have cs1 := kept hb cs1_
            have cq1 := kept hb cq1_
            have er1 := er1_.below hb
            have es1 := es1_.below hb
            have eq1 := eq1_.below hb
            have bc0 := ho.bx.c0
            go_wp2
            go_wp2_with fail
            refine region_flow [(false, [(0, 0), (1, 1), (2, 0), (3, 1), (4, 0), (5, 0), (6, 0), (7, 0), (8, 0), (9, 1), (10, 5)]), (false, [(11, 4), (12, 0), (13, 4)])] (by kernel_rfl) ?_
            refine norm_K fun K hK => ?_
            change wpList _ _ _ [_, _, _, _, _, _, _, _, _, _, _] _ _
            have hb21 : Below wr.heap.size wr wr.drew := (by repeat (first | exact Below.refl _ _ | apply blw_drew | apply blw_alloc | (refine blw_set ?_ (by first | omega | (simp; done) | (simp; omega)) _) | refine below_chain ?_ (by assumption)))
            have hx0 := hx0.below hb21; have hx1 := hx1.below hb21; have d00 := kept hb21 d00; have d01 := kept hb21 d01; have d10 := kept hb21 d10; have d11 := kept hb21 d11; have hr := hr.below hb21; have ca1 := kept hb21 ca1; have cb1 := kept hb21 cb1; have cc1 := kept hb21 cc1; have cr1 := kept hb21 cr1; have cs1 := kept hb21 cs1; have cq1 := kept hb21 cq1; have er1 := er1.below hb21; have es1 := es1.below hb21; have eq1 := eq1.below hb21; have ho := ho.below hb21; have bc0 := kept hb21 bc0
            generalize wr.drew = wq at *
            have hoW := ho
            go_wp2_with fail
            have hb22 : Below wq.heap.size wq (wq.alloc (.cells #[.int .i64 c1_] 2)) := (by repeat (first | exact Below.refl _ _ | apply blw_drew | apply blw_alloc | (refine blw_set ?_ (by first | omega | (simp; done) | (simp; omega)) _) | refine below_chain ?_ (by assumption)))
            have hx0 := hx0.below hb22; have hx1 := hx1.below hb22; have d00 := kept hb22 d00; have d01 := kept hb22 d01; have d10 := kept hb22 d10; have d11 := kept hb22 d11; have hr := hr.below hb22; have ca1 := kept hb22 ca1; have cb1 := kept hb22 cb1; have cc1 := kept hb22 cc1; have cr1 := kept hb22 cr1; have cs1 := kept hb22 cs1; have cq1 := kept hb22 cq1; have er1 := er1.below hb22; have es1 := es1.below hb22; have eq1 := eq1.below hb22; have ho := ho.below hb22; have bc0 := kept hb22 bc0
            have hl : OwnI (wq.alloc (.cells #[.int .i64 c1_] 2)) wq.heap.size wq.heap.size [c1_].length [c1_].length [c1_] := OwnI.lit (Nat.le_refl _) [c1_] (by simp)
            go_wp2_with fail
            have hz0 : Below wq.heap.size wq (wq.alloc (.cells #[.int .i64 c1_] 2)) := (by repeat (first | exact Below.refl _ _ | apply blw_drew | apply blw_alloc | (refine blw_set ?_ (by first | omega | (simp; done) | (simp; omega)) _) | refine below_chain ?_ (by assumption)))
            first | (refine hK _ _ ⟨hz0, ?_⟩; clear hK K) | refine ⟨hz0, ?_⟩
            clear hz0
            refine norm_K fun K hK => ?_
            change wpList _ _ _ [_, _, _] _ _
            go_wp2_with (at_builtin; refine appn_one rfl _ _ rfl wq (w1.heap.size + 1) _ rfl dv (tdgS ⟨[a1_, b1_, c1_], [u1_, v1_, t1_]⟩ 0 2) rfl c1_ 1 rfl hoW.od (by have := hoW.bx.lt; simp; omega) (by have := HD.out; omega) ?_; intro g' cap' w' hown' hgb' hg' hge; have bx' := hoW.bx.bl hgb' (Nat.lt_succ_self _); have bc0 := bx'.c0; have bf0 := bx'.f0)
            first | (refine hK _ _ ⟨rfl, ?_⟩; clear hK K) | refine ⟨rfl, ?_⟩
            have hba : Below w1.heap.size w1 (w'.setCell ⟨w1.heap.size, 0, none⟩ (.slice (some ⟨g', 0, none⟩) ((tdgS ⟨[a1_, b1_, c1_], [u1_, v1_, t1_]⟩ 0 2).length + 1) cap')) := blw_set ((show Below w1.heap.size w1 wq from below_chain hb (by repeat (first | exact Below.refl _ _ | apply blw_drew | apply blw_alloc | (refine blw_set ?_ (by first | omega | (simp; done) | (simp; omega)) _) | refine below_chain ?_ (by assumption)))).trans (hgb'.mono HN.out)) HM.out _
            have ho := hoW.num (nv := .slice (some ⟨g', 0, none⟩) ((tdgS ⟨[a1_, b1_, c1_], [u1_, v1_, t1_]⟩ 0 2).length + 1) cap') rfl hown' hgb' hg' hge
            clear bc0 bf0 bx' hown'
            obtain ⟨wa, hwa⟩ : ∃ x, x = w'.setCell ⟨w1.heap.size, 0, none⟩ (.slice (some ⟨g', 0, none⟩) ((tdgS ⟨[a1_, b1_, c1_], [u1_, v1_, t1_]⟩ 0 2).length + 1) cap') := ⟨_, rfl⟩
            rw [← hwa] at hba ho ⊢; clear hwa
            have hx0 := hx0_.below hba
            have hx1 := hx1_.below hba
            have d00 := kept hba d00_
            have d01 := kept hba d01_
            have d10 := kept hba d10_
            have d11 := kept hba d11_
            have hr := hr_.below hba
            have ca1 := kept hba ca1_
            have cb1 := kept hba cb1_
            have cc1 := kept hba cc1_
            have cr1 := kept hba cr1_
            have cs1 := kept hba cs1_
            have cq1 := kept hba cq1_
            have er1 := er1_.below hba
            have es1 := es1_.below hba
            have eq1 := eq1_.below hba
            have bc1 := ho.bx.c1
            go_wp2
            go_wp2_with fail
            refine region_flow [(false, [(0, 0), (1, 1), (2, 0), (3, 1), (4, 0), (5, 0), (6, 0), (7, 0), (8, 0), (9, 1), (10, 5)]), (false, [(11, 5)]), (false, [(12, 4), (13, 0), (14, 4)])] (by kernel_rfl) ?_
            refine norm_K fun K hK => ?_
            change wpList _ _ _ [_, _, _, _, _, _, _, _, _, _, _] _ _
            have hb21 : Below wa.heap.size wa wa.drew := (by repeat (first | exact Below.refl _ _ | apply blw_drew | apply blw_alloc | (refine blw_set ?_ (by first | omega | (simp; done) | (simp; omega)) _) | refine below_chain ?_ (by assumption)))
            have hx0 := hx0.below hb21; have hx1 := hx1.below hb21; have d00 := kept hb21 d00; have d01 := kept hb21 d01; have d10 := kept hb21 d10; have d11 := kept hb21 d11; have hr := hr.below hb21; have ca1 := kept hb21 ca1; have cb1 := kept hb21 cb1; have cc1 := kept hb21 cc1; have cr1 := kept hb21 cr1; have cs1 := kept hb21 cs1; have cq1 := kept hb21 cq1; have er1 := er1.below hb21; have es1 := es1.below hb21; have eq1 := eq1.below hb21; have ho := ho.below hb21; have bc1 := kept hb21 bc1
            generalize wa.drew = wq at *
            have hoF := ho
            have hoA := ho
            go_wp2_with fail
            refine (own_c eq1.sl (by rw [LT.out]; omega) (by rw [LT.out]; omega)).mono ?_; rintro e w22 ⟨z1, rfl, hv2, hb22⟩
            have hx0 := hx0.below hb22; have hx1 := hx1.below hb22; have d00 := kept hb22 d00; have d01 := kept hb22 d01; have d10 := kept hb22 d10; have d11 := kept hb22 d11; have hr := hr.below hb22; have ca1 := kept hb22 ca1; have cb1 := kept hb22 cb1; have cc1 := kept hb22 cc1; have cr1 := kept hb22 cr1; have cs1 := kept hb22 cs1; have cq1 := kept hb22 cq1; have er1 := er1.below hb22; have es1 := es1.below hb22; have eq1 := eq1.below hb22; have ho := ho.below hb22; have bc1 := kept hb22 bc1
            go_wp2_with fail
            have hz0 : Below wq.heap.size wq w22 := (by repeat (first | exact Below.refl _ _ | apply blw_drew | apply blw_alloc | (refine blw_set ?_ (by first | omega | (simp; done) | (simp; omega)) _) | refine below_chain ?_ (by assumption)))
            first | (refine hK _ _ ⟨hz0, ?_⟩; clear hK K) | refine ⟨hz0, ?_⟩
            clear hz0
            refine norm_K fun K hK => ?_
            change wpList _ _ _ [_] _ _
            have hf := hoF.fresh hv2
            obtain ⟨g2, cap2, rfl, hv2o⟩ := id hv2
            have hoW := ho
            have hb23 : Below w22.heap.size w22 (w22.alloc (.cells #[.slice (some ⟨g2, 0, none⟩) (t1_).length cap2] 22)) := (by repeat (first | exact Below.refl _ _ | apply blw_drew | apply blw_alloc | (refine blw_set ?_ (by first | omega | (simp; done) | (simp; omega)) _) | refine below_chain ?_ (by assumption)))
            have hx0 := hx0.below hb23; have hx1 := hx1.below hb23; have d00 := kept hb23 d00; have d01 := kept hb23 d01; have d10 := kept hb23 d10; have d11 := kept hb23 d11; have hr := hr.below hb23; have ca1 := kept hb23 ca1; have cb1 := kept hb23 cb1; have cc1 := kept hb23 cc1; have cr1 := kept hb23 cr1; have cs1 := kept hb23 cs1; have cq1 := kept hb23 cq1; have er1 := er1.below hb23; have es1 := es1.below hb23; have eq1 := eq1.below hb23; have ho := ho.below hb23; have bc1 := kept hb23 bc1
            have x0 : (w22.alloc (.cells #[.slice (some ⟨g2, 0, none⟩) (t1_).length cap2] 22)).cell? ⟨w22.heap.size, 0, none⟩ = some (.slice (some ⟨g2, 0, none⟩) (t1_).length cap2) := by simp [go_sem]
            go_wp2_with fail
            have hz1 : Below wq.heap.size wq (w22.alloc (.cells #[.slice (some ⟨g2, 0, none⟩) (t1_).length cap2] 22)) := (by repeat (first | exact Below.refl _ _ | apply blw_drew | apply blw_alloc | (refine blw_set ?_ (by first | omega | (simp; done) | (simp; omega)) _) | refine below_chain ?_ (by assumption)))
            first | (refine hK _ _ ⟨hz1, ?_⟩; clear hK K) | refine ⟨hz1, ?_⟩
            clear hz1
            refine norm_K fun K hK => ?_
            change wpList _ _ _ [_, _, _] _ _
            go_wp2_with (at_builtin; refine appr_one rfl _ _ rfl w22 (w1.heap.size + 1) _ rfl uv us rfl (.slice (some ⟨g2, 0, none⟩) (t1_).length cap2) 1 rfl rfl hoW.ou (by have := hoW.bx.lt; simp; omega) (by have := HU.out; omega) ?_; intro g3 cap3 w3 hown3 hgb3 hg3 hge3; have bx' := hoW.bx.bl hgb3 (Nat.lt_succ_self _); have bc1 := bx'.c1; have bf1 := bx'.f1)
            first | (refine hK _ _ ⟨rfl, ?_⟩; clear hK K) | refine ⟨rfl, ?_⟩
            have hbz : Below w1.heap.size w1 (w3.setCell ⟨w1.heap.size, 1, none⟩ (.slice (some ⟨g3, 0, none⟩) (us.length + 1) cap3)) := blw_set ((show Below w1.heap.size w1 w22 from below_chain hba (by repeat (first | exact Below.refl _ _ | apply blw_drew | apply blw_alloc | (refine blw_set ?_ (by first | omega | (simp; done) | (simp; omega)) _) | refine below_chain ?_ (by assumption)))).trans (hgb3.mono HN.out)) HM.out _
            have hz := hoW.row (hv2.more (by have := hoA.bx.lt; first | omega | (simp; omega))) hf.1 hf.2 hown3 hgb3 hg3
            go_wp2_with fail
            go_roundw
            case rel => exact ⟨2 + 1, _, _, _, by omega, rfl, hz, hbz⟩
            case measure => simp [intOf]
          · skip
            have hx0 := hx0_.below hb
            have hx1 := hx1_.below hb
            have d00 := kept hb d00_
            have d01 := kept hb d01_
            have d10 := kept hb d10_
            have d11 := kept hb d11_
            have hr := hr_.below hb
            have ca1 := kept hb ca1_
            have cb1 := kept hb cb1_
            have cc1 := kept hb cc1_
            have cr1 := kept hb cr1_
            have cs1 := kept hb cs1_
            have cq1 := kept hb cq1_
            have er1 := er1_.below hb
            have es1 := es1_.below hb
            have eq1 := eq1_.below hb
            have hfr := ho.frh (by have := HD.out; omega) (by have := HU.out; omega)
            obtain ⟨gd, cd, rfl, _⟩ := ho.od.fr (by have := HD.out; omega)
            obtain ⟨gu, cu, rfl, _⟩ := World.ownsRow.form ho.ou (by have := HU.out; omega)
            have bc0 := ho.bx.c0; have bc1 := ho.bx.c1
            have rc0 := hr.c0; have rc1 := hr.c1; have rf0 := hr.f0; have rf1 := hr.f1
            have hbe := below_chain (show Below w.heap.size w w1 from (by repeat (first | exact Below.refl _ _ | apply blw_drew | apply blw_alloc | (refine blw_set ?_ (by first | omega | (simp; done) | (simp; omega)) _) | refine below_chain ?_ (by assumption)))) hb
            have hz1_ : w.heap.size + 1 + 1 + 1 + 1 ≤ w1.heap.size := by have := hb1.size; have := HWs.out; omega
            go_wp2_with fail
            refine bodyPost_ret (v := .tuple #[.agg #[.slice (some ⟨gd, 0, none⟩) (tdgS ⟨[a1_, b1_, c1_], [u1_, v1_, t1_]⟩ 0 3).length cd, .slice (some ⟨gu, 0, none⟩) us.length cu], .int .i64 0]) (by simp [results, Try.results32, go_sem, rc0, rc1]) rfl ⟨_, rfl, .inr ?_, ?_⟩
            · exact ((hfr.set_ (by first | omega | (simp; done) | (simp; omega)) _).set_ (by first | omega | (simp; done) | (simp; omega)) _).more (by omega)
            · exact blw_set (blw_set hbe (by first | omega | (simp; done) | (simp; omega)) _) (by first | omega | (simp; done) | (simp; omega)) _
      · have h2 : inR 1 0 2 = true := by decide
        have e1 : RTurnRows1 p0 st0 X1 1 = 0 := by unfold RTurnRows1; rw [if_pos h0]; rfl
        rw [show RTurnRows0 p0 st0 X1 1 = ⟨tdgS X1 1 3, tupS X1 1 3⟩ from if_pos e1, e1]
        clear e1
        obtain ⟨a1_, b1_, c1_, u1_, v1_, t1_, bd1, od1, cd1, bu1, ou1, cu1, r1_, s1_, q1_, rfl, e_, ba1, bb1, bc1_, eu1, ev1, et1, ca1, cb1, cc1, cr1, cs1, cq1, er1, es1, eq1, kd1, ku1⟩ := Hv.op3 hx1 hX1
        cases e_
        have LU := Lib.hid eu1.1; have LV := Lib.hid ev1.1; have LT := Lib.hid et1.1
        clear kd1 ku1
        go_enter Try.func32, Try.ntmps32
        go_wp2_with fail
        refine hcon.mono ?_; rintro e w1 ⟨rfl, hb1⟩
        rw [← hW] at hb1
        clear hW hcon
        have hx0 := hx0.below hb1; have hx1 := hx1.below hb1; have d00 := kept hb1 d00; have d01 := kept hb1 d01; have d10 := kept hb1 d10; have d11 := kept hb1 d11; have hr := hr.below hb1; have ca1 := kept hb1 ca1; have cb1 := kept hb1 cb1; have cc1 := kept hb1 cc1; have cr1 := kept hb1 cr1; have cs1 := kept hb1 cs1; have cq1 := kept hb1 cq1; have er1 := er1.below hb1; have es1 := es1.below hb1; have eq1 := eq1.below hb1
        go_wp2_with fail
        refine (sin_c).mono ?_; rintro e w22 ⟨rfl, rfl⟩
        have HN := Lib.hid (Nat.le_succ w1.heap.size); have HM := Lib.hid (Nat.le_refl w1.heap.size)
        have hx0_ := hx0
        have hx1_ := hx1
        have d00_ := d00
        have d01_ := d01
        have d10_ := d10
        have d11_ := d11
        have hr_ := hr
        have ca1_ := ca1
        have cb1_ := cb1
        have cc1_ := cc1
        have cr1_ := cr1
        have cs1_ := cs1
        have cq1_ := cq1
        have er1_ := er1
        have es1_ := es1
        have eq1_ := eq1
        go_wp2
        go_loopw [10] (fun i wr => ∃ (k : Nat) (dv uv : Value) (us : List Value), k ≤ 3 ∧ i = .int .i64 k ∧ Out wr w1.heap.size dv uv us (tdgS ⟨[a1_, b1_, c1_], [u1_, v1_, t1_]⟩ 1 k) (tupS ⟨[a1_, b1_, c1_], [u1_, v1_, t1_]⟩ 1 k) ∧ Below w1.heap.size w1 wr) (fun i _ => 3 - (intOf i).toNat)
        case atStart => exact ⟨0, _, _, [], by omega, rfl, Out.start (heap_alloc_new w1 _), (by repeat (first | exact Below.refl _ _ | apply blw_drew | apply blw_alloc | (refine blw_set ?_ (by first | omega | (simp; done) | (simp; omega)) _) | refine below_chain ?_ (by assumption)))⟩
        case round =>
          obtain ⟨k, dv, uv, us, hk, rfl, ho, hb⟩ := hrel
          have HD := Lib.hid (tdgS_len (X := ⟨[a1_, b1_, c1_], [u1_, v1_, t1_]⟩) (k := 1) k)
          have HU := Lib.hid (ho.ul.trans (tupS_len k))
          rcases (show k = 0 ∨ k = 1 ∨ k = 2 ∨ k = 3 by omega) with rfl | rfl | rfl | rfl
          · skip
            have hx0 := hx0_.below hb
            have hx1 := hx1_.below hb
            have d00 := kept hb d00_
            have d01 := kept hb d01_
            have d10 := kept hb d10_
            have d11 := kept hb d11_
            have hr := hr_.below hb
            have ca1 := kept hb ca1_
            have cb1 := kept hb cb1_
            have cc1 := kept hb cc1_
            have cr1 := kept hb cr1_
            have cs1 := kept hb cs1_
            have cq1 := kept hb cq1_
            have er1 := er1_.below hb
            have es1 := es1_.below hb
            have eq1 := eq1_.below hb
            have bc0 := ho.bx.c0
            go_wp2
            go_wp2_with fail
            refine region_flow [(false, [(0, 0), (1, 1), (2, 0), (3, 1), (4, 0), (5, 0), (6, 0), (7, 0), (8, 0), (9, 1), (10, 5)]), (false, [(11, 4), (12, 0), (13, 4)])] (by kernel_rfl) ?_
            refine norm_K fun K hK => ?_
            change wpList _ _ _ [_, _, _, _, _, _, _, _, _, _, _] _ _
            have hb21 : Below wr.heap.size wr wr.drew := (by repeat (first | exact Below.refl _ _ | apply blw_drew | apply blw_alloc | (refine blw_set ?_ (by first | omega | (simp; done) | (simp; omega)) _) | refine below_chain ?_ (by assumption)))
            have hx0 := hx0.below hb21; have hx1 := hx1.below hb21; have d00 := kept hb21 d00; have d01 := kept hb21 d01; have d10 := kept hb21 d10; have d11 := kept hb21 d11; have hr := hr.below hb21; have ca1 := kept hb21 ca1; have cb1 := kept hb21 cb1; have cc1 := kept hb21 cc1; have cr1 := kept hb21 cr1; have cs1 := kept hb21 cs1; have cq1 := kept hb21 cq1; have er1 := er1.below hb21; have es1 := es1.below hb21; have eq1 := eq1.below hb21; have ho := ho.below hb21; have bc0 := kept hb21 bc0
            generalize wr.drew = wq at *
            have hoW := ho
            go_wp2_with fail
            have hb22 : Below wq.heap.size wq (wq.alloc (.cells #[.int .i64 b1_] 2)) := (by repeat (first | exact Below.refl _ _ | apply blw_drew | apply blw_alloc | (refine blw_set ?_ (by first | omega | (simp; done) | (simp; omega)) _) | refine below_chain ?_ (by assumption)))
            have hx0 := hx0.below hb22; have hx1 := hx1.below hb22; have d00 := kept hb22 d00; have d01 := kept hb22 d01; have d10 := kept hb22 d10; have d11 := kept hb22 d11; have hr := hr.below hb22; have ca1 := kept hb22 ca1; have cb1 := kept hb22 cb1; have cc1 := kept hb22 cc1; have cr1 := kept hb22 cr1; have cs1 := kept hb22 cs1; have cq1 := kept hb22 cq1; have er1 := er1.below hb22; have es1 := es1.below hb22; have eq1 := eq1.below hb22; have ho := ho.below hb22; have bc0 := kept hb22 bc0
            have hl : OwnI (wq.alloc (.cells #[.int .i64 b1_] 2)) wq.heap.size wq.heap.size [b1_].length [b1_].length [b1_] := OwnI.lit (Nat.le_refl _) [b1_] (by simp)
            go_wp2_with fail
            have hz0 : Below wq.heap.size wq (wq.alloc (.cells #[.int .i64 b1_] 2)) := (by repeat (first | exact Below.refl _ _ | apply blw_drew | apply blw_alloc | (refine blw_set ?_ (by first | omega | (simp; done) | (simp; omega)) _) | refine below_chain ?_ (by assumption)))
            first | (refine hK _ _ ⟨hz0, ?_⟩; clear hK K) | refine ⟨hz0, ?_⟩
            clear hz0
            refine norm_K fun K hK => ?_
            change wpList _ _ _ [_, _, _] _ _
            go_wp2_with (at_builtin; refine appn_one rfl _ _ rfl wq (w1.heap.size + 1) _ rfl dv (tdgS ⟨[a1_, b1_, c1_], [u1_, v1_, t1_]⟩ 1 0) rfl b1_ 1 rfl hoW.od (by have := hoW.bx.lt; simp; omega) (by have := HD.out; omega) ?_; intro g' cap' w' hown' hgb' hg' hge; have bx' := hoW.bx.bl hgb' (Nat.lt_succ_self _); have bc0 := bx'.c0; have bf0 := bx'.f0)
            first | (refine hK _ _ ⟨rfl, ?_⟩; clear hK K) | refine ⟨rfl, ?_⟩
            have hba : Below w1.heap.size w1 (w'.setCell ⟨w1.heap.size, 0, none⟩ (.slice (some ⟨g', 0, none⟩) ((tdgS ⟨[a1_, b1_, c1_], [u1_, v1_, t1_]⟩ 1 0).length + 1) cap')) := blw_set ((show Below w1.heap.size w1 wq from below_chain hb (by repeat (first | exact Below.refl _ _ | apply blw_drew | apply blw_alloc | (refine blw_set ?_ (by first | omega | (simp; done) | (simp; omega)) _) | refine below_chain ?_ (by assumption)))).trans (hgb'.mono HN.out)) HM.out _
            have ho := hoW.num (nv := .slice (some ⟨g', 0, none⟩) ((tdgS ⟨[a1_, b1_, c1_], [u1_, v1_, t1_]⟩ 1 0).length + 1) cap') rfl hown' hgb' hg' hge
            clear bc0 bf0 bx' hown'
            obtain ⟨wa, hwa⟩ : ∃ x, x = w'.setCell ⟨w1.heap.size, 0, none⟩ (.slice (some ⟨g', 0, none⟩) ((tdgS ⟨[a1_, b1_, c1_], [u1_, v1_, t1_]⟩ 1 0).length + 1) cap') := ⟨_, rfl⟩
            rw [← hwa] at hba ho ⊢; clear hwa
            have hx0 := hx0_.below hba
            have hx1 := hx1_.below hba
            have d00 := kept hba d00_
            have d01 := kept hba d01_
            have d10 := kept hba d10_
            have d11 := kept hba d11_
            have hr := hr_.below hba
            have ca1 := kept hba ca1_
            have cb1 := kept hba cb1_
            have cc1 := kept hba cc1_
            have cr1 := kept hba cr1_
            have cs1 := kept hba cs1_
            have cq1 := kept hba cq1_
            have er1 := er1_.below hba
            have es1 := es1_.below hba
            have eq1 := eq1_.below hba
            have bc1 := ho.bx.c1
            go_wp2
            go_wp2_with fail
            refine region_flow [(false, [(0, 0), (1, 1), (2, 0), (3, 1), (4, 0), (5, 0), (6, 0), (7, 0), (8, 0), (9, 1), (10, 5)]), (false, [(11, 5)]), (false, [(12, 4), (13, 0), (14, 4)])] (by kernel_rfl) ?_
            refine norm_K fun K hK => ?_
            change wpList _ _ _ [_, _, _, _, _, _, _, _, _, _, _] _ _
            have hb21 : Below wa.heap.size wa wa.drew := (by repeat (first | exact Below.refl _ _ | apply blw_drew | apply blw_alloc | (refine blw_set ?_ (by first | omega | (simp; done) | (simp; omega)) _) | refine below_chain ?_ (by assumption)))
            have hx0 := hx0.below hb21; have hx1 := hx1.below hb21; have d00 := kept hb21 d00; have d01 := kept hb21 d01; have d10 := kept hb21 d10; have d11 := kept hb21 d11; have hr := hr.below hb21; have ca1 := kept hb21 ca1; have cb1 := kept hb21 cb1; have cc1 := kept hb21 cc1; have cr1 := kept hb21 cr1; have cs1 := kept hb21 cs1; have cq1 := kept hb21 cq1; have er1 := er1.below hb21; have es1 := es1.below hb21; have eq1 := eq1.below hb21; have ho := ho.below hb21; have bc1 := kept hb21 bc1
            generalize wa.drew = wq at *
            have hoF := ho
            have hoA := ho
            go_wp2_with fail
            refine (own_c es1.sl (by rw [LV.out]; omega) (by rw [LV.out]; omega)).mono ?_; rintro e w22 ⟨z1, rfl, hv2, hb22⟩
            have hx0 := hx0.below hb22; have hx1 := hx1.below hb22; have d00 := kept hb22 d00; have d01 := kept hb22 d01; have d10 := kept hb22 d10; have d11 := kept hb22 d11; have hr := hr.below hb22; have ca1 := kept hb22 ca1; have cb1 := kept hb22 cb1; have cc1 := kept hb22 cc1; have cr1 := kept hb22 cr1; have cs1 := kept hb22 cs1; have cq1 := kept hb22 cq1; have er1 := er1.below hb22; have es1 := es1.below hb22; have eq1 := eq1.below hb22; have ho := ho.below hb22; have bc1 := kept hb22 bc1
            go_wp2_with fail
            have hz0 : Below wq.heap.size wq w22 := (by repeat (first | exact Below.refl _ _ | apply blw_drew | apply blw_alloc | (refine blw_set ?_ (by first | omega | (simp; done) | (simp; omega)) _) | refine below_chain ?_ (by assumption)))
            first | (refine hK _ _ ⟨hz0, ?_⟩; clear hK K) | refine ⟨hz0, ?_⟩
            clear hz0
            refine norm_K fun K hK => ?_
            change wpList _ _ _ [_] _ _
            have hf := hoF.fresh hv2
            obtain ⟨g2, cap2, rfl, hv2o⟩ := id hv2
            have hoW := ho
            have hb23 : Below w22.heap.size w22 (w22.alloc (.cells #[.slice (some ⟨g2, 0, none⟩) (v1_).length cap2] 22)) := (by repeat (first | exact Below.refl _ _ | apply blw_drew | apply blw_alloc | (refine blw_set ?_ (by first | omega | (simp; done) | (simp; omega)) _) | refine below_chain ?_ (by assumption)))
            have hx0 := hx0.below hb23; have hx1 := hx1.below hb23; have d00 := kept hb23 d00; have d01 := kept hb23 d01; have d10 := kept hb23 d10; have d11 := kept hb23 d11; have hr := hr.below hb23; have ca1 := kept hb23 ca1; have cb1 := kept hb23 cb1; have cc1 := kept hb23 cc1; have cr1 := kept hb23 cr1; have cs1 := kept hb23 cs1; have cq1 := kept hb23 cq1; have er1 := er1.below hb23; have es1 := es1.below hb23; have eq1 := eq1.below hb23; have ho := ho.below hb23; have bc1 := kept hb23 bc1
            have x0 : (w22.alloc (.cells #[.slice (some ⟨g2, 0, none⟩) (v1_).length cap2] 22)).cell? ⟨w22.heap.size, 0, none⟩ = some (.slice (some ⟨g2, 0, none⟩) (v1_).length cap2) := by simp [go_sem]
            go_wp2_with fail
            have hz1 : Below wq.heap.size wq (w22.alloc (.cells #[.slice (some ⟨g2, 0, none⟩) (v1_).length cap2] 22)) := (by repeat (first | exact Below.refl _ _ | apply blw_drew | apply blw_alloc | (refine blw_set ?_ (by first | omega | (simp; done) | (simp; omega)) _) | refine below_chain ?_ (by assumption)))
            first | (refine hK _ _ ⟨hz1, ?_⟩; clear hK K) | refine ⟨hz1, ?_⟩
            clear hz1
            refine norm_K fun K hK => ?_
            change wpList _ _ _ [_, _, _] _ _
            go_wp2_with (at_builtin; refine appr_one rfl _ _ rfl w22 (w1.heap.size + 1) _ rfl uv us rfl (.slice (some ⟨g2, 0, none⟩) (v1_).length cap2) 1 rfl rfl hoW.ou (by have := hoW.bx.lt; simp; omega) (by have := HU.out; omega) ?_; intro g3 cap3 w3 hown3 hgb3 hg3 hge3; have bx' := hoW.bx.bl hgb3 (Nat.lt_succ_self _); have bc1 := bx'.c1; have bf1 := bx'.f1)
            first | (refine hK _ _ ⟨rfl, ?_⟩; clear hK K) | refine ⟨rfl, ?_⟩
            have hbz : Below w1.heap.size w1 (w3.setCell ⟨w1.heap.size, 1, none⟩ (.slice (some ⟨g3, 0, none⟩) (us.length + 1) cap3)) := blw_set ((show Below w1.heap.size w1 w22 from below_chain hba (by repeat (first | exact Below.refl _ _ | apply blw_drew | apply blw_alloc | (refine blw_set ?_ (by first | omega | (simp; done) | (simp; omega)) _) | refine below_chain ?_ (by assumption)))).trans (hgb3.mono HN.out)) HM.out _
            have hz := hoW.row (hv2.more (by have := hoA.bx.lt; first | omega | (simp; omega))) hf.1 hf.2 hown3 hgb3 hg3
            go_wp2_with fail
            go_roundw
            case rel => exact ⟨0 + 1, _, _, _, by omega, rfl, hz, hbz⟩
            case measure => simp [intOf]
          · skip
            have hx0 := hx0_.below hb
            have hx1 := hx1_.below hb
            have d00 := kept hb d00_
            have d01 := kept hb d01_
            have d10 := kept hb d10_
            have d11 := kept hb d11_
            have hr := hr_.below hb
            have ca1 := kept hb ca1_
            have cb1 := kept hb cb1_
            have cc1 := kept hb cc1_
            have cr1 := kept hb cr1_
            have cs1 := kept hb cs1_
            have cq1 := kept hb cq1_
            have er1 := er1_.below hb
            have es1 := es1_.below hb
            have eq1 := eq1_.below hb
            have bc0 := ho.bx.c0
            go_wp2
            go_wp2_with fail
            refine region_flow [(false, [(0, 0), (1, 1), (2, 0), (3, 1), (4, 0), (5, 0), (6, 0), (7, 0), (8, 0), (9, 1), (10, 5)]), (false, [(11, 4), (12, 0), (13, 4)])] (by kernel_rfl) ?_
            refine norm_K fun K hK => ?_
            change wpList _ _ _ [_, _, _, _, _, _, _, _, _, _, _] _ _
            have hb21 : Below wr.heap.size wr wr.drew := (by repeat (first | exact Below.refl _ _ | apply blw_drew | apply blw_alloc | (refine blw_set ?_ (by first | omega | (simp; done) | (simp; omega)) _) | refine below_chain ?_ (by assumption)))
            have hx0 := hx0.below hb21; have hx1 := hx1.below hb21; have d00 := kept hb21 d00; have d01 := kept hb21 d01; have d10 := kept hb21 d10; have d11 := kept hb21 d11; have hr := hr.below hb21; have ca1 := kept hb21 ca1; have cb1 := kept hb21 cb1; have cc1 := kept hb21 cc1; have cr1 := kept hb21 cr1; have cs1 := kept hb21 cs1; have cq1 := kept hb21 cq1; have er1 := er1.below hb21; have es1 := es1.below hb21; have eq1 := eq1.below hb21; have ho := ho.below hb21; have bc0 := kept hb21 bc0
            generalize wr.drew = wq at *
            have hoW := ho
            go_wp2_with fail
            have hb22 : Below wq.heap.size wq (wq.alloc (.cells #[.int .i64 c1_] 2)) := (by repeat (first | exact Below.refl _ _ | apply blw_drew | apply blw_alloc | (refine blw_set ?_ (by first | omega | (simp; done) | (simp; omega)) _) | refine below_chain ?_ (by assumption)))
            have hx0 := hx0.below hb22; have hx1 := hx1.below hb22; have d00 := kept hb22 d00; have d01 := kept hb22 d01; have d10 := kept hb22 d10; have d11 := kept hb22 d11; have hr := hr.below hb22; have ca1 := kept hb22 ca1; have cb1 := kept hb22 cb1; have cc1 := kept hb22 cc1; have cr1 := kept hb22 cr1; have cs1 := kept hb22 cs1; have cq1 := kept hb22 cq1; have er1 := er1.below hb22; have es1 := es1.below hb22; have eq1 := eq1.below hb22; have ho := ho.below hb22; have bc0 := kept hb22 bc0
            have hl : OwnI (wq.alloc (.cells #[.int .i64 c1_] 2)) wq.heap.size wq.heap.size [c1_].length [c1_].length [c1_] := OwnI.lit (Nat.le_refl _) [c1_] (by simp)
            go_wp2_with fail
            have hz0 : Below wq.heap.size wq (wq.alloc (.cells #[.int .i64 c1_] 2)) := (by repeat (first | exact Below.refl _ _ | apply blw_drew | apply blw_alloc | (refine blw_set ?_ (by first | omega | (simp; done) | (simp; omega)) _) | refine below_chain ?_ (by assumption)))
            first | (refine hK _ _ ⟨hz0, ?_⟩; clear hK K) | refine ⟨hz0, ?_⟩
            clear hz0
            refine norm_K fun K hK => ?_
            change wpList _ _ _ [_, _, _] _ _
            go_wp2_with (at_builtin; refine appn_one rfl _ _ rfl wq (w1.heap.size + 1) _ rfl dv (tdgS ⟨[a1_, b1_, c1_], [u1_, v1_, t1_]⟩ 1 1) rfl c1_ 1 rfl hoW.od (by have := hoW.bx.lt; simp; omega) (by have := HD.out; omega) ?_; intro g' cap' w' hown' hgb' hg' hge; have bx' := hoW.bx.bl hgb' (Nat.lt_succ_self _); have bc0 := bx'.c0; have bf0 := bx'.f0)
            first | (refine hK _ _ ⟨rfl, ?_⟩; clear hK K) | refine ⟨rfl, ?_⟩
            have hba : Below w1.heap.size w1 (w'.setCell ⟨w1.heap.size, 0, none⟩ (.slice (some ⟨g', 0, none⟩) ((tdgS ⟨[a1_, b1_, c1_], [u1_, v1_, t1_]⟩ 1 1).length + 1) cap')) := blw_set ((show Below w1.heap.size w1 wq from below_chain hb (by repeat (first | exact Below.refl _ _ | apply blw_drew | apply blw_alloc | (refine blw_set ?_ (by first | omega | (simp; done) | (simp; omega)) _) | refine below_chain ?_ (by assumption)))).trans (hgb'.mono HN.out)) HM.out _
            have ho := hoW.num (nv := .slice (some ⟨g', 0, none⟩) ((tdgS ⟨[a1_, b1_, c1_], [u1_, v1_, t1_]⟩ 1 1).length + 1) cap') rfl hown' hgb' hg' hge
            clear bc0 bf0 bx' hown'
            obtain ⟨wa, hwa⟩ : ∃ x, x = w'.setCell ⟨w1.heap.size, 0, none⟩ (.slice (some ⟨g', 0, none⟩) ((tdgS ⟨[a1_, b1_, c1_], [u1_, v1_, t1_]⟩ 1 1).length + 1) cap') := ⟨_, rfl⟩
            rw [← hwa] at hba ho ⊢; clear hwa
            have hx0 := hx0_.below hba
            have hx1 := hx1_.below hba
            have d00 := kept hba d00_
            have d01 := kept hba d01_
            have d10 := kept hba d10_
            have d11 := kept hba d11_
            have hr := hr_.below hba
            have ca1 := kept hba ca1_
            have cb1 := kept hba cb1_
            have cc1 := kept hba cc1_
            have cr1 := kept hba cr1_
            have cs1 := kept hba cs1_
            have cq1 := kept hba cq1_
            have er1 := er1_.below hba
            have es1 := es1_.below hba
            have eq1 := eq1_.below hba
            have bc1 := ho.bx.c1
            go_wp2
            go_wp2_with fail
            refine region_flow [(false, [(0, 0), (1, 1), (2, 0), (3, 1), (4, 0), (5, 0), (6, 0), (7, 0), (8, 0), (9, 1), (10, 5)]), (false, [(11, 5)]), (false, [(12, 4), (13, 0), (14, 4)])] (by kernel_rfl) ?_
            refine norm_K fun K hK => ?_
            change wpList _ _ _ [_, _, _, _, _, _, _, _, _, _, _] _ _
            have hb21 : Below wa.heap.size wa wa.drew := (by repeat (first | exact Below.refl _ _ | apply blw_drew | apply blw_alloc | (refine blw_set ?_ (by first | omega | (simp; done) | (simp; omega)) _) | refine below_chain ?_ (by assumption)))
            have hx0 := hx0.below hb21; have hx1 := hx1.below hb21; have d00 := kept hb21 d00; have d01 := kept hb21 d01; have d10 := kept hb21 d10; have d11 := kept hb21 d11; have hr := hr.below hb21; have ca1 := kept hb21 ca1; have cb1 := kept hb21 cb1; have cc1 := kept hb21 cc1; have cr1 := kept hb21 cr1; have cs1 := kept hb21 cs1; have cq1 := kept hb21 cq1; have er1 := er1.below hb21; have es1 := es1.below hb21; have eq1 := eq1.below hb21; have ho := ho.below hb21; have bc1 := kept hb21 bc1
            generalize wa.drew = wq at *
            have hoF := ho
            have hoA := ho
            go_wp2_with fail
            refine (own_c eq1.sl (by rw [LT.out]; omega) (by rw [LT.out]; omega)).mono ?_; rintro e w22 ⟨z1, rfl, hv2, hb22⟩
            have hx0 := hx0.below hb22; have hx1 := hx1.below hb22; have d00 := kept hb22 d00; have d01 := kept hb22 d01; have d10 := kept hb22 d10; have d11 := kept hb22 d11; have hr := hr.below hb22; have ca1 := kept hb22 ca1; have cb1 := kept hb22 cb1; have cc1 := kept hb22 cc1; have cr1 := kept hb22 cr1; have cs1 := kept hb22 cs1; have cq1 := kept hb22 cq1; have er1 := er1.below hb22; have es1 := es1.below hb22; have eq1 := eq1.below hb22; have ho := ho.below hb22; have bc1 := kept hb22 bc1
            go_wp2_with fail
            have hz0 : Below wq.heap.size wq w22 := (by repeat (first | exact Below.refl _ _ | apply blw_drew | apply blw_alloc | (refine blw_set ?_ (by first | omega | (simp; done) | (simp; omega)) _) | refine below_chain ?_ (by assumption)))
            first | (refine hK _ _ ⟨hz0, ?_⟩; clear hK K) | refine ⟨hz0, ?_⟩
            clear hz0
            refine norm_K fun K hK => ?_
            change wpList _ _ _ [_] _ _
            have hf := hoF.fresh hv2
            obtain ⟨g2, cap2, rfl, hv2o⟩ := id hv2
            have hoW := ho
            have hb23 : Below w22.heap.size w22 (w22.alloc (.cells #[.slice (some ⟨g2, 0, none⟩) (t1_).length cap2] 22)) := (by repeat (first | exact Below.refl _ _ | apply blw_drew | apply blw_alloc | (refine blw_set ?_ (by first | omega | (simp; done) | (simp; omega)) _) | refine below_chain ?_ (by assumption)))
            have hx0 := hx0.below hb23; have hx1 := hx1.below hb23; have d00 := kept hb23 d00; have d01 := kept hb23 d01; have d10 := kept hb23 d10; have d11 := kept hb23 d11; have hr := hr.below hb23; have ca1 := kept hb23 ca1; have cb1 := kept hb23 cb1; have cc1 := kept hb23 cc1; have cr1 := kept hb23 cr1; have cs1 := kept hb23 cs1; have cq1 := kept hb23 cq1; have er1 := er1.below hb23; have es1 := es1.below hb23; have eq1 := eq1.below hb23; have ho := ho.below hb23; have bc1 := kept hb23 bc1
            have x0 : (w22.alloc (.cells #[.slice (some ⟨g2, 0, none⟩) (t1_).length cap2] 22)).cell? ⟨w22.heap.size, 0, none⟩ = some (.slice (some ⟨g2, 0, none⟩) (t1_).length cap2) := by simp [go_sem]
            go_wp2_with fail
            have hz1 : Below wq.heap.size wq (w22.alloc (.cells #[.slice (some ⟨g2, 0, none⟩) (t1_).length cap2] 22)) := (by repeat (first | exact Below.refl _ _ | apply blw_drew | apply blw_alloc | (refine blw_set ?_ (by first | omega | (simp; done) | (simp; omega)) _) | refine below_chain ?_ (by assumption)))
            first | (refine hK _ _ ⟨hz1, ?_⟩; clear hK K) | refine ⟨hz1, ?_⟩
            clear hz1
            refine norm_K fun K hK => ?_
            change wpList _ _ _ [_, _, _] _ _
            go_wp2_with (at_builtin; refine appr_one rfl _ _ rfl w22 (w1.heap.size + 1) _ rfl uv us rfl (.slice (some ⟨g2, 0, none⟩) (t1_).length cap2) 1 rfl rfl hoW.ou (by have := hoW.bx.lt; simp; omega) (by have := HU.out; omega) ?_; intro g3 cap3 w3 hown3 hgb3 hg3 hge3; have bx' := hoW.bx.bl hgb3 (Nat.lt_succ_self _); have bc1 := bx'.c1; have bf1 := bx'.f1)
            first | (refine hK _ _ ⟨rfl, ?_⟩; clear hK K) | refine ⟨rfl, ?_⟩
            have hbz : Below w1.heap.size w1 (w3.setCell ⟨w1.heap.size, 1, none⟩ (.slice (some ⟨g3, 0, none⟩) (us.length + 1) cap3)) := blw_set ((show Below w1.heap.size w1 w22 from below_chain hba (by repeat (first | exact Below.refl _ _ | apply blw_drew | apply blw_alloc | (refine blw_set ?_ (by first | omega | (simp; done) | (simp; omega)) _) | refine below_chain ?_ (by assumption)))).trans (hgb3.mono HN.out)) HM.out _
            have hz := hoW.row (hv2.more (by have := hoA.bx.lt; first | omega | (simp; omega))) hf.1 hf.2 hown3 hgb3 hg3
            go_wp2_with fail
            go_roundw
            case rel => exact ⟨1 + 1, _, _, _, by omega, rfl, hz, hbz⟩
            case measure => simp [intOf]
          · skip
            have hx0 := hx0_.below hb
            have hx1 := hx1_.below hb
            have d00 := kept hb d00_
            have d01 := kept hb d01_
            have d10 := kept hb d10_
            have d11 := kept hb d11_
            have hr := hr_.below hb
            have ca1 := kept hb ca1_
            have cb1 := kept hb cb1_
            have cc1 := kept hb cc1_
            have cr1 := kept hb cr1_
            have cs1 := kept hb cs1_
            have cq1 := kept hb cq1_
            have er1 := er1_.below hb
            have es1 := es1_.below hb
            have eq1 := eq1_.below hb
            have bc0 := ho.bx.c0
            go_wp2
            go_wp2_with fail
            refine region_flow [(false, [(0, 0), (1, 1), (2, 0), (3, 1), (4, 0), (5, 0), (6, 0), (7, 0), (8, 0), (9, 1), (10, 5)]), (false, [(11, 4), (12, 0), (13, 4)])] (by kernel_rfl) ?_
            refine norm_K fun K hK => ?_
            change wpList _ _ _ [_, _, _, _, _, _, _, _, _, _, _] _ _
            have hb21 : Below wr.heap.size wr wr.drew := (by repeat (first | exact Below.refl _ _ | apply blw_drew | apply blw_alloc | (refine blw_set ?_ (by first | omega | (simp; done) | (simp; omega)) _) | refine below_chain ?_ (by assumption)))
            have hx0 := hx0.below hb21; have hx1 := hx1.below hb21; have d00 := kept hb21 d00; have d01 := kept hb21 d01; have d10 := kept hb21 d10; have d11 := kept hb21 d11; have hr := hr.below hb21; have ca1 := kept hb21 ca1; have cb1 := kept hb21 cb1; have cc1 := kept hb21 cc1; have cr1 := kept hb21 cr1; have cs1 := kept hb21 cs1; have cq1 := kept hb21 cq1; have er1 := er1.below hb21; have es1 := es1.below hb21; have eq1 := eq1.below hb21; have ho := ho.below hb21; have bc0 := kept hb21 bc0
            generalize wr.drew = wq at *
            have hoW := ho
            go_wp2_with fail
            have hb22 : Below wq.heap.size wq (wq.alloc (.cells #[.int .i64 a1_] 2)) := (by repeat (first | exact Below.refl _ _ | apply blw_drew | apply blw_alloc | (refine blw_set ?_ (by first | omega | (simp; done) | (simp; omega)) _) | refine below_chain ?_ (by assumption)))
            have hx0 := hx0.below hb22; have hx1 := hx1.below hb22; have d00 := kept hb22 d00; have d01 := kept hb22 d01; have d10 := kept hb22 d10; have d11 := kept hb22 d11; have hr := hr.below hb22; have ca1 := kept hb22 ca1; have cb1 := kept hb22 cb1; have cc1 := kept hb22 cc1; have cr1 := kept hb22 cr1; have cs1 := kept hb22 cs1; have cq1 := kept hb22 cq1; have er1 := er1.below hb22; have es1 := es1.below hb22; have eq1 := eq1.below hb22; have ho := ho.below hb22; have bc0 := kept hb22 bc0
            have hl : OwnI (wq.alloc (.cells #[.int .i64 a1_] 2)) wq.heap.size wq.heap.size [a1_].length [a1_].length [a1_] := OwnI.lit (Nat.le_refl _) [a1_] (by simp)
            go_wp2_with fail
            have hz0 : Below wq.heap.size wq (wq.alloc (.cells #[.int .i64 a1_] 2)) := (by repeat (first | exact Below.refl _ _ | apply blw_drew | apply blw_alloc | (refine blw_set ?_ (by first | omega | (simp; done) | (simp; omega)) _) | refine below_chain ?_ (by assumption)))
            first | (refine hK _ _ ⟨hz0, ?_⟩; clear hK K) | refine ⟨hz0, ?_⟩
            clear hz0
            refine norm_K fun K hK => ?_
            change wpList _ _ _ [_, _, _] _ _
            go_wp2_with (at_builtin; refine appn_one rfl _ _ rfl wq (w1.heap.size + 1) _ rfl dv (tdgS ⟨[a1_, b1_, c1_], [u1_, v1_, t1_]⟩ 1 2) rfl a1_ 1 rfl hoW.od (by have := hoW.bx.lt; simp; omega) (by have := HD.out; omega) ?_; intro g' cap' w' hown' hgb' hg' hge; have bx' := hoW.bx.bl hgb' (Nat.lt_succ_self _); have bc0 := bx'.c0; have bf0 := bx'.f0)
            first | (refine hK _ _ ⟨rfl, ?_⟩; clear hK K) | refine ⟨rfl, ?_⟩
            have hba : Below w1.heap.size w1 (w'.setCell ⟨w1.heap.size, 0, none⟩ (.slice (some ⟨g', 0, none⟩) ((tdgS ⟨[a1_, b1_, c1_], [u1_, v1_, t1_]⟩ 1 2).length + 1) cap')) := blw_set ((show Below w1.heap.size w1 wq from below_chain hb (by repeat (first | exact Below.refl _ _ | apply blw_drew | apply blw_alloc | (refine blw_set ?_ (by first | omega | (simp; done) | (simp; omega)) _) | refine below_chain ?_ (by assumption)))).trans (hgb'.mono HN.out)) HM.out _
            have ho := hoW.num (nv := .slice (some ⟨g', 0, none⟩) ((tdgS ⟨[a1_, b1_, c1_], [u1_, v1_, t1_]⟩ 1 2).length + 1) cap') rfl hown' hgb' hg' hge
            clear bc0 bf0 bx' hown'
            obtain ⟨wa, hwa⟩ : ∃ x, x = w'.setCell ⟨w1.heap.size, 0, none⟩ (.slice (some ⟨g', 0, none⟩) ((tdgS ⟨[a1_, b1_, c1_], [u1_, v1_, t1_]⟩ 1 2).length + 1) cap') := ⟨_, rfl⟩
            rw [← hwa] at hba ho ⊢; clear hwa
            have hx0 := hx0_.below hba
            have hx1 := hx1_.below hba
            have d00 := kept hba d00_
            have d01 := kept hba d01_
            have d10 := kept hba d10_
            have d11 := kept hba d11_
            have hr := hr_.below hba
            have ca1 := kept hba ca1_
            have cb1 := kept hba cb1_
            have cc1 := kept hba cc1_
            have cr1 := kept hba cr1_
            have cs1 := kept hba cs1_
            have cq1 := kept hba cq1_
            have er1 := er1_.below hba
            have es1 := es1_.below hba
            have eq1 := eq1_.below hba
            have bc1 := ho.bx.c1
            go_wp2
            go_wp2_with fail
            refine region_flow [(false, [(0, 0), (1, 1), (2, 0), (3, 1), (4, 0), (5, 0), (6, 0), (7, 0), (8, 0), (9, 1), (10, 5)]), (false, [(11, 5)]), (false, [(12, 4), (13, 0), (14, 4)])] (by kernel_rfl) ?_
            refine norm_K fun K hK => ?_
            change wpList _ _ _ [_, _, _, _, _, _, _, _, _, _, _] _ _
            have hb21 : Below wa.heap.size wa wa.drew := (by repeat (first | exact Below.refl _ _ | apply blw_drew | apply blw_alloc | (refine blw_set ?_ (by first | omega | (simp; done) | (simp; omega)) _) | refine below_chain ?_ (by assumption)))
            have hx0 := hx0.below hb21; have hx1 := hx1.below hb21; have d00 := kept hb21 d00; have d01 := kept hb21 d01; have d10 := kept hb21 d10; have d11 := kept hb21 d11; have hr := hr.below hb21; have ca1 := kept hb21 ca1; have cb1 := kept hb21 cb1; have cc1 := kept hb21 cc1; have cr1 := kept hb21 cr1; have cs1 := kept hb21 cs1; have cq1 := kept hb21 cq1; have er1 := er1.below hb21; have es1 := es1.below hb21; have eq1 := eq1.below hb21; have ho := ho.below hb21; have bc1 := kept hb21 bc1
            generalize wa.drew = wq at *
            have hoF := ho
            have hoA := ho
            go_wp2_with fail
            refine (own_c er1.sl (by rw [LU.out]; omega) (by rw [LU.out]; omega)).mono ?_; rintro e w22 ⟨z1, rfl, hv2, hb22⟩
            have hx0 := hx0.below hb22; have hx1 := hx1.below hb22; have d00 := kept hb22 d00; have d01 := kept hb22 d01; have d10 := kept hb22 d10; have d11 := kept hb22 d11; have hr := hr.below hb22; have ca1 := kept hb22 ca1; have cb1 := kept hb22 cb1; have cc1 := kept hb22 cc1; have cr1 := kept hb22 cr1; have cs1 := kept hb22 cs1; have cq1 := kept hb22 cq1; have er1 := er1.below hb22; have es1 := es1.below hb22; have eq1 := eq1.below hb22; have ho := ho.below hb22; have bc1 := kept hb22 bc1
            go_wp2_with fail
            have hz0 : Below wq.heap.size wq w22 := (by repeat (first | exact Below.refl _ _ | apply blw_drew | apply blw_alloc | (refine blw_set ?_ (by first | omega | (simp; done) | (simp; omega)) _) | refine below_chain ?_ (by assumption)))
            first | (refine hK _ _ ⟨hz0, ?_⟩; clear hK K) | refine ⟨hz0, ?_⟩
            clear hz0
            refine norm_K fun K hK => ?_
            change wpList _ _ _ [_] _ _
            have hf := hoF.fresh hv2
            obtain ⟨g2, cap2, rfl, hv2o⟩ := id hv2
            have hoW := ho
            have hb23 : Below w22.heap.size w22 (w22.alloc (.cells #[.slice (some ⟨g2, 0, none⟩) (u1_).length cap2] 22)) := (by repeat (first | exact Below.refl _ _ | apply blw_drew | apply blw_alloc | (refine blw_set ?_ (by first | omega | (simp; done) | (simp; omega)) _) | refine below_chain ?_ (by assumption)))
            have hx0 := hx0.below hb23; have hx1 := hx1.below hb23; have d00 := kept hb23 d00; have d01 := kept hb23 d01; have d10 := kept hb23 d10; have d11 := kept hb23 d11; have hr := hr.below hb23; have ca1 := kept hb23 ca1; have cb1 := kept hb23 cb1; have cc1 := kept hb23 cc1; have cr1 := kept hb23 cr1; have cs1 := kept hb23 cs1; have cq1 := kept hb23 cq1; have er1 := er1.below hb23; have es1 := es1.below hb23; have eq1 := eq1.below hb23; have ho := ho.below hb23; have bc1 := kept hb23 bc1
            have x0 : (w22.alloc (.cells #[.slice (some ⟨g2, 0, none⟩) (u1_).length cap2] 22)).cell? ⟨w22.heap.size, 0, none⟩ = some (.slice (some ⟨g2, 0, none⟩) (u1_).length cap2) := by simp [go_sem]
            go_wp2_with fail
            have hz1 : Below wq.heap.size wq (w22.alloc (.cells #[.slice (some ⟨g2, 0, none⟩) (u1_).length cap2] 22)) := (by repeat (first | exact Below.refl _ _ | apply blw_drew | apply blw_alloc | (refine blw_set ?_ (by first | omega | (simp; done) | (simp; omega)) _) | refine below_chain ?_ (by assumption)))
            first | (refine hK _ _ ⟨hz1, ?_⟩; clear hK K) | refine ⟨hz1, ?_⟩
            clear hz1
            refine norm_K fun K hK => ?_
            change wpList _ _ _ [_, _, _] _ _
            go_wp2_with (at_builtin; refine appr_one rfl _ _ rfl w22 (w1.heap.size + 1) _ rfl uv us rfl (.slice (some ⟨g2, 0, none⟩) (u1_).length cap2) 1 rfl rfl hoW.ou (by have := hoW.bx.lt; simp; omega) (by have := HU.out; omega) ?_; intro g3 cap3 w3 hown3 hgb3 hg3 hge3; have bx' := hoW.bx.bl hgb3 (Nat.lt_succ_self _); have bc1 := bx'.c1; have bf1 := bx'.f1)
            first | (refine hK _ _ ⟨rfl, ?_⟩; clear hK K) | refine ⟨rfl, ?_⟩
            have hbz : Below w1.heap.size w1 (w3.setCell ⟨w1.heap.size, 1, none⟩ (.slice (some ⟨g3, 0, none⟩) (us.length + 1) cap3)) := blw_set ((show Below w1.heap.size w1 w22 from below_chain hba (by repeat (first | exact Below.refl _ _ | apply blw_drew | apply blw_alloc | (refine blw_set ?_ (by first | omega | (simp; done) | (simp; omega)) _) | refine below_chain ?_ (by assumption)))).trans (hgb3.mono HN.out)) HM.out _
            have hz := hoW.row (hv2.more (by have := hoA.bx.lt; first | omega | (simp; omega))) hf.1 hf.2 hown3 hgb3 hg3
            go_wp2_with fail
            go_roundw
            case rel => exact ⟨2 + 1, _, _, _, by omega, rfl, hz, hbz⟩
            case measure => simp [intOf]
          · skip
            have hx0 := hx0_.below hb
            have hx1 := hx1_.below hb
            have d00 := kept hb d00_
            have d01 := kept hb d01_
            have d10 := kept hb d10_
            have d11 := kept hb d11_
            have hr := hr_.below hb
            have ca1 := kept hb ca1_
            have cb1 := kept hb cb1_
            have cc1 := kept hb cc1_
            have cr1 := kept hb cr1_
            have cs1 := kept hb cs1_
            have cq1 := kept hb cq1_
            have er1 := er1_.below hb
            have es1 := es1_.below hb
            have eq1 := eq1_.below hb
            have hfr := ho.frh (by have := HD.out; omega) (by have := HU.out; omega)
            obtain ⟨gd, cd, rfl, _⟩ := ho.od.fr (by have := HD.out; omega)
            obtain ⟨gu, cu, rfl, _⟩ := World.ownsRow.form ho.ou (by have := HU.out; omega)
            have bc0 := ho.bx.c0; have bc1 := ho.bx.c1
            have rc0 := hr.c0; have rc1 := hr.c1; have rf0 := hr.f0; have rf1 := hr.f1
            have hbe := below_chain (show Below w.heap.size w w1 from (by repeat (first | exact Below.refl _ _ | apply blw_drew | apply blw_alloc | (refine blw_set ?_ (by first | omega | (simp; done) | (simp; omega)) _) | refine below_chain ?_ (by assumption)))) hb
            have hz1_ : w.heap.size + 1 + 1 + 1 + 1 ≤ w1.heap.size := by have := hb1.size; have := HWs.out; omega
            go_wp2_with fail
            refine bodyPost_ret (v := .tuple #[.agg #[.slice (some ⟨gd, 0, none⟩) (tdgS ⟨[a1_, b1_, c1_], [u1_, v1_, t1_]⟩ 1 3).length cd, .slice (some ⟨gu, 0, none⟩) us.length cu], .int .i64 0]) (by simp [results, Try.results32, go_sem, rc0, rc1]) rfl ⟨_, rfl, .inr ?_, ?_⟩
            · exact ((hfr.set_ (by first | omega | (simp; done) | (simp; omega)) _).set_ (by first | omega | (simp; done) | (simp; omega)) _).more (by omega)
            · exact blw_set (blw_set hbe (by first | omega | (simp; done) | (simp; omega)) _) (by first | omega | (simp; done) | (simp; omega)) _
      · have h2 : inR 2 0 2 = true := by decide
        have e1 : RTurnRows1 p0 st0 X1 2 = 0 := by unfold RTurnRows1; rw [if_pos h0]; rfl
        rw [show RTurnRows0 p0 st0 X1 2 = ⟨tdgS X1 2 3, tupS X1 2 3⟩ from if_pos e1, e1]
        clear e1
        obtain ⟨a1_, b1_, c1_, u1_, v1_, t1_, bd1, od1, cd1, bu1, ou1, cu1, r1_, s1_, q1_, rfl, e_, ba1, bb1, bc1_, eu1, ev1, et1, ca1, cb1, cc1, cr1, cs1, cq1, er1, es1, eq1, kd1, ku1⟩ := Hv.op3 hx1 hX1
        cases e_
        have LU := Lib.hid eu1.1; have LV := Lib.hid ev1.1; have LT := Lib.hid et1.1
        clear kd1 ku1
        go_enter Try.func32, Try.ntmps32
        go_wp2_with fail
        refine hcon.mono ?_; rintro e w1 ⟨rfl, hb1⟩
        rw [← hW] at hb1
        clear hW hcon
        have hx0 := hx0.below hb1; have hx1 := hx1.below hb1; have d00 := kept hb1 d00; have d01 := kept hb1 d01; have d10 := kept hb1 d10; have d11 := kept hb1 d11; have hr := hr.below hb1; have ca1 := kept hb1 ca1; have cb1 := kept hb1 cb1; have cc1 := kept hb1 cc1; have cr1 := kept hb1 cr1; have cs1 := kept hb1 cs1; have cq1 := kept hb1 cq1; have er1 := er1.below hb1; have es1 := es1.below hb1; have eq1 := eq1.below hb1
        go_wp2_with fail
        refine (sin_c).mono ?_; rintro e w22 ⟨rfl, rfl⟩
        have HN := Lib.hid (Nat.le_succ w1.heap.size); have HM := Lib.hid (Nat.le_refl w1.heap.size)
        have hx0_ := hx0
        have hx1_ := hx1
        have d00_ := d00
        have d01_ := d01
        have d10_ := d10
        have d11_ := d11
        have hr_ := hr
        have ca1_ := ca1
        have cb1_ := cb1
        have cc1_ := cc1
        have cr1_ := cr1
        have cs1_ := cs1
        have cq1_ := cq1
        have er1_ := er1
        have es1_ := es1
        have eq1_ := eq1
        go_wp2
        go_loopw [10] (fun i wr => ∃ (k : Nat) (dv uv : Value) (us : List Value), k ≤ 3 ∧ i = .int .i64 k ∧ Out wr w1.heap.size dv uv us (tdgS ⟨[a1_, b1_, c1_], [u1_, v1_, t1_]⟩ 2 k) (tupS ⟨[a1_, b1_, c1_], [u1_, v1_, t1_]⟩ 2 k) ∧ Below w1.heap.size w1 wr) (fun i _ => 3 - (intOf i).toNat)
        case atStart => exact ⟨0, _, _, [], by omega, rfl, Out.start (heap_alloc_new w1 _), (by repeat (first | exact Below.refl _ _ | apply blw_drew | apply blw_alloc | (refine blw_set ?_ (by first | omega | (simp; done) | (simp; omega)) _) | refine below_chain ?_ (by assumption)))⟩
        case round =>
          obtain ⟨k, dv, uv, us, hk, rfl, ho, hb⟩ := hrel
          have HD := Lib.hid (tdgS_len (X := ⟨[a1_, b1_, c1_], [u1_, v1_, t1_]⟩) (k := 2) k)
          have HU := Lib.hid (ho.ul.trans (tupS_len k))
          rcases (show k = 0 ∨ k = 1 ∨ k = 2 ∨ k = 3 by omega) with rfl | rfl | rfl | rfl
          · skip
            have hx0 := hx0_.below hb
            have hx1 := hx1_.below hb
            have d00 := kept hb d00_
            have d01 := kept hb d01_
            have d10 := kept hb d10_
            have d11 := kept hb d11_
            have hr := hr_.below hb
            have ca1 := kept hb ca1_
            have cb1 := kept hb cb1_
            have cc1 := kept hb cc1_
            have cr1 := kept hb cr1_
            have cs1 := kept hb cs1_
            have cq1 := kept hb cq1_
            have er1 := er1_.below hb
            have es1 := es1_.below hb
            have eq1 := eq1_.below hb
            have bc0 := ho.bx.c0
            go_wp2
            go_wp2_with fail
            refine region_flow [(false, [(0, 0), (1, 1), (2, 0), (3, 1), (4, 0), (5, 0), (6, 0), (7, 0), (8, 0), (9, 1), (10, 5)]), (false, [(11, 4), (12, 0), (13, 4)])] (by kernel_rfl) ?_
            refine norm_K fun K hK => ?_
            change wpList _ _ _ [_, _, _, _, _, _, _, _, _, _, _] _ _
            have hb21 : Below wr.heap.size wr wr.drew := (by repeat (first | exact Below.refl _ _ | apply blw_drew | apply blw_alloc | (refine blw_set ?_ (by first | omega | (simp; done) | (simp; omega)) _) | refine below_chain ?_ (by assumption)))
            have hx0 := hx0.below hb21; have hx1 := hx1.below hb21; have d00 := kept hb21 d00; have d01 := kept hb21 d01; have d10 := kept hb21 d10; have d11 := kept hb21 d11; have hr := hr.below hb21; have ca1 := kept hb21 ca1; have cb1 := kept hb21 cb1; have cc1 := kept hb21 cc1; have cr1 := kept hb21 cr1; have cs1 := kept hb21 cs1; have cq1 := kept hb21 cq1; have er1 := er1.below hb21; have es1 := es1.below hb21; have eq1 := eq1.below hb21; have ho := ho.below hb21; have bc0 := kept hb21 bc0
            generalize wr.drew = wq at *
            have hoW := ho
            go_wp2_with fail
            have hb22 : Below wq.heap.size wq (wq.alloc (.cells #[.int .i64 c1_] 2)) := (by repeat (first | exact Below.refl _ _ | apply blw_drew | apply blw_alloc | (refine blw_set ?_ (by first | omega | (simp; done) | (simp; omega)) _) | refine below_chain ?_ (by assumption)))
            have hx0 := hx0.below hb22; have hx1 := hx1.below hb22; have d00 := kept hb22 d00; have d01 := kept hb22 d01; have d10 := kept hb22 d10; have d11 := kept hb22 d11; have hr := hr.below hb22; have ca1 := kept hb22 ca1; have cb1 := kept hb22 cb1; have cc1 := kept hb22 cc1; have cr1 := kept hb22 cr1; have cs1 := kept hb22 cs1; have cq1 := kept hb22 cq1; have er1 := er1.below hb22; have es1 := es1.below hb22; have eq1 := eq1.below hb22; have ho := ho.below hb22; have bc0 := kept hb22 bc0
            have hl : OwnI (wq.alloc (.cells #[.int .i64 c1_] 2)) wq.heap.size wq.heap.size [c1_].length [c1_].length [c1_] := OwnI.lit (Nat.le_refl _) [c1_] (by simp)
            go_wp2_with fail
            have hz0 : Below wq.heap.size wq (wq.alloc (.cells #[.int .i64 c1_] 2)) := (by repeat (first | exact Below.refl _ _ | apply blw_drew | apply blw_alloc | (refine blw_set ?_ (by first | omega | (simp; done) | (simp; omega)) _) | refine below_chain ?_ (by assumption)))
            first | (refine hK _ _ ⟨hz0, ?_⟩; clear hK K) | refine ⟨hz0, ?_⟩
            clear hz0
            refine norm_K fun K hK => ?_
            change wpList _ _ _ [_, _, _] _ _
            go_wp2_with (at_builtin; refine appn_one rfl _ _ rfl wq (w1.heap.size + 1) _ rfl dv (tdgS ⟨[a1_, b1_, c1_], [u1_, v1_, t1_]⟩ 2 0) rfl c1_ 1 rfl hoW.od (by have := hoW.bx.lt; simp; omega) (by have := HD.out; omega) ?_; intro g' cap' w' hown' hgb' hg' hge; have bx' := hoW.bx.bl hgb' (Nat.lt_succ_self _); have bc0 := bx'.c0; have bf0 := bx'.f0)
            first | (refine hK _ _ ⟨rfl, ?_⟩; clear hK K) | refine ⟨rfl, ?_⟩
            have hba : Below w1.heap.size w1 (w'.setCell ⟨w1.heap.size, 0, none⟩ (.slice (some ⟨g', 0, none⟩) ((tdgS ⟨[a1_, b1_, c1_], [u1_, v1_, t1_]⟩ 2 0).length + 1) cap')) := blw_set ((show Below w1.heap.size w1 wq from below_chain hb (by repeat (first | exact Below.refl _ _ | apply blw_drew | apply blw_alloc | (refine blw_set ?_ (by first | omega | (simp; done) | (simp; omega)) _) | refine below_chain ?_ (by assumption)))).trans (hgb'.mono HN.out)) HM.out _
            have ho := hoW.num (nv := .slice (some ⟨g', 0, none⟩) ((tdgS ⟨[a1_, b1_, c1_], [u1_, v1_, t1_]⟩ 2 0).length + 1) cap') rfl hown' hgb' hg' hge
            clear bc0 bf0 bx' hown'
            obtain ⟨wa, hwa⟩ : ∃ x, x = w'.setCell ⟨w1.heap.size, 0, none⟩ (.slice (some ⟨g', 0, none⟩) ((tdgS ⟨[a1_, b1_, c1_], [u1_, v1_, t1_]⟩ 2 0).length + 1) cap') := ⟨_, rfl⟩
            rw [← hwa] at hba ho ⊢; clear hwa
            have hx0 := hx0_.below hba
            have hx1 := hx1_.below hba
            have d00 := kept hba d00_
            have d01 := kept hba d01_
            have d10 := kept hba d10_
            have d11 := kept hba d11_
            have hr := hr_.below hba
            have ca1 := kept hba ca1_
            have cb1 := kept hba cb1_
            have cc1 := kept hba cc1_
            have cr1 := kept hba cr1_
            have cs1 := kept hba cs1_
            have cq1 := kept hba cq1_
            have er1 := er1_.below hba
            have es1 := es1_.below hba
            have eq1 := eq1_.below hba
            have bc1 := ho.bx.c1
            go_wp2
            go_wp2_with fail
            refine region_flow [(false, [(0, 0), (1, 1), (2, 0), (3, 1), (4, 0), (5, 0), (6, 0), (7, 0), (8, 0), (9, 1), (10, 5)]), (false, [(11, 5)]), (false, [(12, 4), (13, 0), (14, 4)])] (by kernel_rfl) ?_
            refine norm_K fun K hK => ?_
            change wpList _ _ _ [_, _, _, _, _, _, _, _, _, _, _] _ _
            have hb21 : Below wa.heap.size wa wa.drew := (by repeat (first | exact Below.refl _ _ | apply blw_drew | apply blw_alloc | (refine blw_set ?_ (by first | omega | (simp; done) | (simp; omega)) _) | refine below_chain ?_ (by assumption)))
            have hx0 := hx0.below hb21; have hx1 := hx1.below hb21; have d00 := kept hb21 d00; have d01 := kept hb21 d01; have d10 := kept hb21 d10; have d11 := kept hb21 d11; have hr := hr.below hb21; have ca1 := kept hb21 ca1; have cb1 := kept hb21 cb1; have cc1 := kept hb21 cc1; have cr1 := kept hb21 cr1; have cs1 := kept hb21 cs1; have cq1 := kept hb21 cq1; have er1 := er1.below hb21; have es1 := es1.below hb21; have eq1 := eq1.below hb21; have ho := ho.below hb21; have bc1 := kept hb21 bc1
            generalize wa.drew = wq at *
            have hoF := ho
            have hoA := ho
            go_wp2_with fail
            refine (own_c eq1.sl (by rw [LT.out]; omega) (by rw [LT.out]; omega)).mono ?_; rintro e w22 ⟨z1, rfl, hv2, hb22⟩
            have hx0 := hx0.below hb22; have hx1 := hx1.below hb22; have d00 := kept hb22 d00; have d01 := kept hb22 d01; have d10 := kept hb22 d10; have d11 := kept hb22 d11; have hr := hr.below hb22; have ca1 := kept hb22 ca1; have cb1 := kept hb22 cb1; have cc1 := kept hb22 cc1; have cr1 := kept hb22 cr1; have cs1 := kept hb22 cs1; have cq1 := kept hb22 cq1; have er1 := er1.below hb22; have es1 := es1.below hb22; have eq1 := eq1.below hb22; have ho := ho.below hb22; have bc1 := kept hb22 bc1
            go_wp2_with fail
            have hz0 : Below wq.heap.size wq w22 := (by repeat (first | exact Below.refl _ _ | apply blw_drew | apply blw_alloc | (refine blw_set ?_ (by first | omega | (simp; done) | (simp; omega)) _) | refine below_chain ?_ (by assumption)))
            first | (refine hK _ _ ⟨hz0, ?_⟩; clear hK K) | refine ⟨hz0, ?_⟩
            clear hz0
            refine norm_K fun K hK => ?_
            change wpList _ _ _ [_] _ _
            have hf := hoF.fresh hv2
            obtain ⟨g2, cap2, rfl, hv2o⟩ := id hv2
            have hoW := ho
            have hb23 : Below w22.heap.size w22 (w22.alloc (.cells #[.slice (some ⟨g2, 0, none⟩) (t1_).length cap2] 22)) := (by repeat (first | exact Below.refl _ _ | apply blw_drew | apply blw_alloc | (refine blw_set ?_ (by first | omega | (simp; done) | (simp; omega)) _) | refine below_chain ?_ (by assumption)))
            have hx0 := hx0.below hb23; have hx1 := hx1.below hb23; have d00 := kept hb23 d00; have d01 := kept hb23 d01; have d10 := kept hb23 d10; have d11 := kept hb23 d11; have hr := hr.below hb23; have ca1 := kept hb23 ca1; have cb1 := kept hb23 cb1; have cc1 := kept hb23 cc1; have cr1 := kept hb23 cr1; have cs1 := kept hb23 cs1; have cq1 := kept hb23 cq1; have er1 := er1.below hb23; have es1 := es1.below hb23; have eq1 := eq1.below hb23; have ho := ho.below hb23; have bc1 := kept hb23 bc1
            have x0 : (w22.alloc (.cells #[.slice (some ⟨g2, 0, none⟩) (t1_).length cap2] 22)).cell? ⟨w22.heap.size, 0, none⟩ = some (.slice (some ⟨g2, 0, none⟩) (t1_).length cap2) := by simp [go_sem]
            go_wp2_with fail
            have hz1 : Below wq.heap.size wq (w22.alloc (.cells #[.slice (some ⟨g2, 0, none⟩) (t1_).length cap2] 22)) := (by repeat (first | exact Below.refl _ _ | apply blw_drew | apply blw_alloc | (refine blw_set ?_ (by first | omega | (simp; done) | (simp; omega)) _) | refine below_chain ?_ (by assumption)))
            first | (refine hK _ _ ⟨hz1, ?_⟩; clear hK K) | refine ⟨hz1, ?_⟩
            clear hz1
            refine norm_K fun K hK => ?_
            change wpList _ _ _ [_, _, _] _ _
            go_wp2_with (at_builtin; refine appr_one rfl _ _ rfl w22 (w1.heap.size + 1) _ rfl uv us rfl (.slice (some ⟨g2, 0, none⟩) (t1_).length cap2) 1 rfl rfl hoW.ou (by have := hoW.bx.lt; simp; omega) (by have := HU.out; omega) ?_; intro g3 cap3 w3 hown3 hgb3 hg3 hge3; have bx' := hoW.bx.bl hgb3 (Nat.lt_succ_self _); have bc1 := bx'.c1; have bf1 := bx'.f1)
            first | (refine hK _ _ ⟨rfl, ?_⟩; clear hK K) | refine ⟨rfl, ?_⟩
            have hbz : Below w1.heap.size w1 (w3.setCell ⟨w1.heap.size, 1, none⟩ (.slice (some ⟨g3, 0, none⟩) (us.length + 1) cap3)) := blw_set ((show Below w1.heap.size w1 w22 from below_chain hba (by repeat (first | exact Below.refl _ _ | apply blw_drew | apply blw_alloc | (refine blw_set ?_ (by first | omega | (simp; done) | (simp; omega)) _) | refine below_chain ?_ (by assumption)))).trans (hgb3.mono HN.out)) HM.out _
            have hz := hoW.row (hv2.more (by have := hoA.bx.lt; first | omega | (simp; omega))) hf.1 hf.2 hown3 hgb3 hg3
            go_wp2_with fail
            go_roundw
            case rel => exact ⟨0 + 1, _, _, _, by omega, rfl, hz, hbz⟩
            case measure => simp [intOf]
          · skip
            have hx0 := hx0_.below hb
            have hx1 := hx1_.below hb
            have d00 := kept hb d00_
            have d01 := kept hb d01_
            have d10 := kept hb d10_
            have d11 := kept hb d11_
            have hr := hr_.below hb
            have ca1 := kept hb ca1_
            have cb1 := kept hb cb1_
            have cc1 := kept hb cc1_
            have cr1 := kept hb cr1_
            have cs1 := kept hb cs1_
            have cq1 := kept hb cq1_
            have er1 := er1_.below hb
            have es1 := es1_.below hb
            have eq1 := eq1_.below hb
            have bc0 := ho.bx.c0
            go_wp2
            go_wp2_with fail
            refine region_flow [(false, [(0, 0), (1, 1), (2, 0), (3, 1), (4, 0), (5, 0), (6, 0), (7, 0), (8, 0), (9, 1), (10, 5)]), (false, [(11, 4), (12, 0), (13, 4)])] (by kernel_rfl) ?_
            refine norm_K fun K hK => ?_
            change wpList _ _ _ [_, _, _, _, _, _, _, _, _, _, _] _ _
            have hb21 : Below wr.heap.size wr wr.drew := (by repeat (first | exact Below.refl _ _ | apply blw_drew | apply blw_alloc | (refine blw_set ?_ (by first | omega | (simp; done) | (simp; omega)) _) | refine below_chain ?_ (by assumption)))
            have hx0 := hx0.below hb21; have hx1 := hx1.below hb21; have d00 := kept hb21 d00; have d01 := kept hb21 d01; have d10 := kept hb21 d10; have d11 := kept hb21 d11; have hr := hr.below hb21; have ca1 := kept hb21 ca1; have cb1 := kept hb21 cb1; have cc1 := kept hb21 cc1; have cr1 := kept hb21 cr1; have cs1 := kept hb21 cs1; have cq1 := kept hb21 cq1; have er1 := er1.below hb21; have es1 := es1.below hb21; have eq1 := eq1.below hb21; have ho := ho.below hb21; have bc0 := kept hb21 bc0
            generalize wr.drew = wq at *
            have hoW := ho
            go_wp2_with fail
            have hb22 : Below wq.heap.size wq (wq.alloc (.cells #[.int .i64 a1_] 2)) := (by repeat (first | exact Below.refl _ _ | apply blw_drew | apply blw_alloc | (refine blw_set ?_ (by first | omega | (simp; done) | (simp; omega)) _) | refine below_chain ?_ (by assumption)))
            have hx0 := hx0.below hb22; have hx1 := hx1.below hb22; have d00 := kept hb22 d00; have d01 := kept hb22 d01; have d10 := kept hb22 d10; have d11 := kept hb22 d11; have hr := hr.below hb22; have ca1 := kept hb22 ca1; have cb1 := kept hb22 cb1; have cc1 := kept hb22 cc1; have cr1 := kept hb22 cr1; have cs1 := kept hb22 cs1; have cq1 := kept hb22 cq1; have er1 := er1.below hb22; have es1 := es1.below hb22; have eq1 := eq1.below hb22; have ho := ho.below hb22; have bc0 := kept hb22 bc0
            have hl : OwnI (wq.alloc (.cells #[.int .i64 a1_] 2)) wq.heap.size wq.heap.size [a1_].length [a1_].length [a1_] := OwnI.lit (Nat.le_refl _) [a1_] (by simp)
            go_wp2_with fail
            have hz0 : Below wq.heap.size wq (wq.alloc (.cells #[.int .i64 a1_] 2)) := (by repeat (first | exact Below.refl _ _ | apply blw_drew | apply blw_alloc | (refine blw_set ?_ (by first | omega | (simp; done) | (simp; omega)) _) | refine below_chain ?_ (by assumption)))
            first | (refine hK _ _ ⟨hz0, ?_⟩; clear hK K) | refine ⟨hz0, ?_⟩
            clear hz0
            refine norm_K fun K hK => ?_
            change wpList _ _ _ [_, _, _] _ _
            go_wp2_with (at_builtin; refine appn_one rfl _ _ rfl wq (w1.heap.size + 1) _ rfl dv (tdgS ⟨[a1_, b1_, c1_], [u1_, v1_, t1_]⟩ 2 1) rfl a1_ 1 rfl hoW.od (by have := hoW.bx.lt; simp; omega) (by have := HD.out; omega) ?_; intro g' cap' w' hown' hgb' hg' hge; have bx' := hoW.bx.bl hgb' (Nat.lt_succ_self _); have bc0 := bx'.c0; have bf0 := bx'.f0)
            first | (refine hK _ _ ⟨rfl, ?_⟩; clear hK K) | refine ⟨rfl, ?_⟩
            have hba : Below w1.heap.size w1 (w'.setCell ⟨w1.heap.size, 0, none⟩ (.slice (some ⟨g', 0, none⟩) ((tdgS ⟨[a1_, b1_, c1_], [u1_, v1_, t1_]⟩ 2 1).length + 1) cap')) := blw_set ((show Below w1.heap.size w1 wq from below_chain hb (by repeat (first | exact Below.refl _ _ | apply blw_drew | apply blw_alloc | (refine blw_set ?_ (by first | omega | (simp; done) | (simp; omega)) _) | refine below_chain ?_ (by assumption)))).trans (hgb'.mono HN.out)) HM.out _
            have ho := hoW.num (nv := .slice (some ⟨g', 0, none⟩) ((tdgS ⟨[a1_, b1_, c1_], [u1_, v1_, t1_]⟩ 2 1).length + 1) cap') rfl hown' hgb' hg' hge
            clear bc0 bf0 bx' hown'
            obtain ⟨wa, hwa⟩ : ∃ x, x = w'.setCell ⟨w1.heap.size, 0, none⟩ (.slice (some ⟨g', 0, none⟩) ((tdgS ⟨[a1_, b1_, c1_], [u1_, v1_, t1_]⟩ 2 1).length + 1) cap') := ⟨_, rfl⟩
            rw [← hwa] at hba ho ⊢; clear hwa
            have hx0 := hx0_.below hba
            have hx1 := hx1_.below hba
            have d00 := kept hba d00_
            have d01 := kept hba d01_
            have d10 := kept hba d10_
            have d11 := kept hba d11_
            have hr := hr_.below hba
            have ca1 := kept hba ca1_
            have cb1 := kept hba cb1_
            have cc1 := kept hba cc1_
            have cr1 := kept hba cr1_
            have cs1 := kept hba cs1_
            have cq1 := kept hba cq1_
            have er1 := er1_.below hba
            have es1 := es1_.below hba
            have eq1 := eq1_.below hba
            have bc1 := ho.bx.c1
            go_wp2
            go_wp2_with fail
            refine region_flow [(false, [(0, 0), (1, 1), (2, 0), (3, 1), (4, 0), (5, 0), (6, 0), (7, 0), (8, 0), (9, 1), (10, 5)]), (false, [(11, 5)]), (false, [(12, 4), (13, 0), (14, 4)])] (by kernel_rfl) ?_
            refine norm_K fun K hK => ?_
            change wpList _ _ _ [_, _, _, _, _, _, _, _, _, _, _] _ _
            have hb21 : Below wa.heap.size wa wa.drew := (by repeat (first | exact Below.refl _ _ | apply blw_drew | apply blw_alloc | (refine blw_set ?_ (by first | omega | (simp; done) | (simp; omega)) _) | refine below_chain ?_ (by assumption)))
            have hx0 := hx0.below hb21; have hx1 := hx1.below hb21; have d00 := kept hb21 d00; have d01 := kept hb21 d01; have d10 := kept hb21 d10; have d11 := kept hb21 d11; have hr := hr.below hb21; have ca1 := kept hb21 ca1; have cb1 := kept hb21 cb1; have cc1 := kept hb21 cc1; have cr1 := kept hb21 cr1; have cs1 := kept hb21 cs1; have cq1 := kept hb21 cq1; have er1 := er1.below hb21; have es1 := es1.below hb21; have eq1 := eq1.below hb21; have ho := ho.below hb21; have bc1 := kept hb21 bc1
            generalize wa.drew = wq at *
            have hoF := ho
            have hoA := ho
            go_wp2_with fail
            refine (own_c er1.sl (by rw [LU.out]; omega) (by rw [LU.out]; omega)).mono ?_; rintro e w22 ⟨z1, rfl, hv2, hb22⟩
            have hx0 := hx0.below hb22; have hx1 := hx1.below hb22; have d00 := kept hb22 d00; have d01 := kept hb22 d01; have d10 := kept hb22 d10; have d11 := kept hb22 d11; have hr := hr.below hb22; have ca1 := kept hb22 ca1; have cb1 := kept hb22 cb1; have cc1 := kept hb22 cc1; have cr1 := kept hb22 cr1; have cs1 := kept hb22 cs1; have cq1 := kept hb22 cq1; have er1 := er1.below hb22; have es1 := es1.below hb22; have eq1 := eq1.below hb22; have ho := ho.below hb22; have bc1 := kept hb22 bc1
            go_wp2_with fail
            have hz0 : Below wq.heap.size wq w22 := (by repeat (first | exact Below.refl _ _ | apply blw_drew | apply blw_alloc | (refine blw_set ?_ (by first | omega | (simp; done) | (simp; omega)) _) | refine below_chain ?_ (by assumption)))
            first | (refine hK _ _ ⟨hz0, ?_⟩; clear hK K) | refine ⟨hz0, ?_⟩
            clear hz0
            refine norm_K fun K hK => ?_
            change wpList _ _ _ [_] _ _
            have hf := hoF.fresh hv2
            obtain ⟨g2, cap2, rfl, hv2o⟩ := id hv2
            have hoW := ho
            have hb23 : Below w22.heap.size w22 (w22.alloc (.cells #[.slice (some ⟨g2, 0, none⟩) (u1_).length cap2] 22)) := (by repeat (first | exact Below.refl _ _ | apply blw_drew | apply blw_alloc | (refine blw_set ?_ (by first | omega | (simp; done) | (simp; omega)) _) | refine below_chain ?_ (by assumption)))
            have hx0 := hx0.below hb23; have hx1 := hx1.below hb23; have d00 := kept hb23 d00; have d01 := kept hb23 d01; have d10 := kept hb23 d10; have d11 := kept hb23 d11; have hr := hr.below hb23; have ca1 := kept hb23 ca1; have cb1 := kept hb23 cb1; have cc1 := kept hb23 cc1; have cr1 := kept hb23 cr1; have cs1 := kept hb23 cs1; have cq1 := kept hb23 cq1; have er1 := er1.below hb23; have es1 := es1.below hb23; have eq1 := eq1.below hb23; have ho := ho.below hb23; have bc1 := kept hb23 bc1
            have x0 : (w22.alloc (.cells #[.slice (some ⟨g2, 0, none⟩) (u1_).length cap2] 22)).cell? ⟨w22.heap.size, 0, none⟩ = some (.slice (some ⟨g2, 0, none⟩) (u1_).length cap2) := by simp [go_sem]
            go_wp2_with fail
            have hz1 : Below wq.heap.size wq (w22.alloc (.cells #[.slice (some ⟨g2, 0, none⟩) (u1_).length cap2] 22)) := (by repeat (first | exact Below.refl _ _ | apply blw_drew | apply blw_alloc | (refine blw_set ?_ (by first | omega | (simp; done) | (simp; omega)) _) | refine below_chain ?_ (by assumption)))
            first | (refine hK _ _ ⟨hz1, ?_⟩; clear hK K) | refine ⟨hz1, ?_⟩
            clear hz1
            refine norm_K fun K hK => ?_
            change wpList _ _ _ [_, _, _] _ _
            go_wp2_with (at_builtin; refine appr_one rfl _ _ rfl w22 (w1.heap.size + 1) _ rfl uv us rfl (.slice (some ⟨g2, 0, none⟩) (u1_).length cap2) 1 rfl rfl hoW.ou (by have := hoW.bx.lt; simp; omega) (by have := HU.out; omega) ?_; intro g3 cap3 w3 hown3 hgb3 hg3 hge3; have bx' := hoW.bx.bl hgb3 (Nat.lt_succ_self _); have bc1 := bx'.c1; have bf1 := bx'.f1)
            first | (refine hK _ _ ⟨rfl, ?_⟩; clear hK K) | refine ⟨rfl, ?_⟩
            have hbz : Below w1.heap.size w1 (w3.setCell ⟨w1.heap.size, 1, none⟩ (.slice (some ⟨g3, 0, none⟩) (us.length + 1) cap3)) := blw_set ((show Below w1.heap.size w1 w22 from below_chain hba (by repeat (first | exact Below.refl _ _ | apply blw_drew | apply blw_alloc | (refine blw_set ?_ (by first | omega | (simp; done) | (simp; omega)) _) | refine below_chain ?_ (by assumption)))).trans (hgb3.mono HN.out)) HM.out _
            have hz := hoW.row (hv2.more (by have := hoA.bx.lt; first | omega | (simp; omega))) hf.1 hf.2 hown3 hgb3 hg3
            go_wp2_with fail
            go_roundw
            case rel => exact ⟨1 + 1, _, _, _, by omega, rfl, hz, hbz⟩
            case measure => simp [intOf]
          · skip
            have hx0 := hx0_.below hb
            have hx1 := hx1_.below hb
            have d00 := kept hb d00_
            have d01 := kept hb d01_
            have d10 := kept hb d10_
            have d11 := kept hb d11_
            have hr := hr_.below hb
            have ca1 := kept hb ca1_
            have cb1 := kept hb cb1_
            have cc1 := kept hb cc1_
            have cr1 := kept hb cr1_
            have cs1 := kept hb cs1_
            have cq1 := kept hb cq1_
            have er1 := er1_.below hb
            have es1 := es1_.below hb
            have eq1 := eq1_.below hb
            have bc0 := ho.bx.c0
            go_wp2
            go_wp2_with fail
            refine region_flow [(false, [(0, 0), (1, 1), (2, 0), (3, 1), (4, 0), (5, 0), (6, 0), (7, 0), (8, 0), (9, 1), (10, 5)]), (false, [(11, 4), (12, 0), (13, 4)])] (by kernel_rfl) ?_
            refine norm_K fun K hK => ?_
            change wpList _ _ _ [_, _, _, _, _, _, _, _, _, _, _] _ _
            have hb21 : Below wr.heap.size wr wr.drew := (by repeat (first | exact Below.refl _ _ | apply blw_drew | apply blw_alloc | (refine blw_set ?_ (by first | omega | (simp; done) | (simp; omega)) _) | refine below_chain ?_ (by assumption)))
            have hx0 := hx0.below hb21; have hx1 := hx1.below hb21; have d00 := kept hb21 d00; have d01 := kept hb21 d01; have d10 := kept hb21 d10; have d11 := kept hb21 d11; have hr := hr.below hb21; have ca1 := kept hb21 ca1; have cb1 := kept hb21 cb1; have cc1 := kept hb21 cc1; have cr1 := kept hb21 cr1; have cs1 := kept hb21 cs1; have cq1 := kept hb21 cq1; have er1 := er1.below hb21; have es1 := es1.below hb21; have eq1 := eq1.below hb21; have ho := ho.below hb21; have bc0 := kept hb21 bc0
            generalize wr.drew = wq at *
            have hoW := ho
            go_wp2_with fail
            have hb22 : Below wq.heap.size wq (wq.alloc (.cells #[.int .i64 b1_] 2)) := (by repeat (first | exact Below.refl _ _ | apply blw_drew | apply blw_alloc | (refine blw_set ?_ (by first | omega | (simp; done) | (simp; omega)) _) | refine below_chain ?_ (by assumption)))
            have hx0 := hx0.below hb22; have hx1 := hx1.below hb22; have d00 := kept hb22 d00; have d01 := kept hb22 d01; have d10 := kept hb22 d10; have d11 := kept hb22 d11; have hr := hr.below hb22; have ca1 := kept hb22 ca1; have cb1 := kept hb22 cb1; have cc1 := kept hb22 cc1; have cr1 := kept hb22 cr1; have cs1 := kept hb22 cs1; have cq1 := kept hb22 cq1; have er1 := er1.below hb22; have es1 := es1.below hb22; have eq1 := eq1.below hb22; have ho := ho.below hb22; have bc0 := kept hb22 bc0
            have hl : OwnI (wq.alloc (.cells #[.int .i64 b1_] 2)) wq.heap.size wq.heap.size [b1_].length [b1_].length [b1_] := OwnI.lit (Nat.le_refl _) [b1_] (by simp)
            go_wp2_with fail
            have hz0 : Below wq.heap.size wq (wq.alloc (.cells #[.int .i64 b1_] 2)) := (by repeat (first | exact Below.refl _ _ | apply blw_drew | apply blw_alloc | (refine blw_set ?_ (by first | omega | (simp; done) | (simp; omega)) _) | refine below_chain ?_ (by assumption)))
            first | (refine hK _ _ ⟨hz0, ?_⟩; clear hK K) | refine ⟨hz0, ?_⟩
            clear hz0
            refine norm_K fun K hK => ?_
            change wpList _ _ _ [_, _, _] _ _
            go_wp2_with (at_builtin; refine appn_one rfl _ _ rfl wq (w1.heap.size + 1) _ rfl dv (tdgS ⟨[a1_, b1_, c1_], [u1_, v1_, t1_]⟩ 2 2) rfl b1_ 1 rfl hoW.od (by have := hoW.bx.lt; simp; omega) (by have := HD.out; omega) ?_; intro g' cap' w' hown' hgb' hg' hge; have bx' := hoW.bx.bl hgb' (Nat.lt_succ_self _); have bc0 := bx'.c0; have bf0 := bx'.f0)
            first | (refine hK _ _ ⟨rfl, ?_⟩; clear hK K) | refine ⟨rfl, ?_⟩
            have hba : Below w1.heap.size w1 (w'.setCell ⟨w1.heap.size, 0, none⟩ (.slice (some ⟨g', 0, none⟩) ((tdgS ⟨[a1_, b1_, c1_], [u1_, v1_, t1_]⟩ 2 2).length + 1) cap')) := blw_set ((show Below w1.heap.size w1 wq from below_chain hb (by repeat (first | exact Below.refl _ _ | apply blw_drew | apply blw_alloc | (refine blw_set ?_ (by first | omega | (simp; done) | (simp; omega)) _) | refine below_chain ?_ (by assumption)))).trans (hgb'.mono HN.out)) HM.out _
            have ho := hoW.num (nv := .slice (some ⟨g', 0, none⟩) ((tdgS ⟨[a1_, b1_, c1_], [u1_, v1_, t1_]⟩ 2 2).length + 1) cap') rfl hown' hgb' hg' hge
            clear bc0 bf0 bx' hown'
            obtain ⟨wa, hwa⟩ : ∃ x, x = w'.setCell ⟨w1.heap.size, 0, none⟩ (.slice (some ⟨g', 0, none⟩) ((tdgS ⟨[a1_, b1_, c1_], [u1_, v1_, t1_]⟩ 2 2).length + 1) cap') := ⟨_, rfl⟩
            rw [← hwa] at hba ho ⊢; clear hwa
            have hx0 := hx0_.below hba
            have hx1 := hx1_.below hba
            have d00 := kept hba d00_
            have d01 := kept hba d01_
            have d10 := kept hba d10_
            have d11 := kept hba d11_
            have hr := hr_.below hba
            have ca1 := kept hba ca1_
            have cb1 := kept hba cb1_
            have cc1 := kept hba cc1_
            have cr1 := kept hba cr1_
            have cs1 := kept hba cs1_
            have cq1 := kept hba cq1_
            have er1 := er1_.below hba
            have es1 := es1_.below hba
            have eq1 := eq1_.below hba
            have bc1 := ho.bx.c1
            go_wp2
            go_wp2_with fail
            refine region_flow [(false, [(0, 0), (1, 1), (2, 0), (3, 1), (4, 0), (5, 0), (6, 0), (7, 0), (8, 0), (9, 1), (10, 5)]), (false, [(11, 5)]), (false, [(12, 4), (13, 0), (14, 4)])] (by kernel_rfl) ?_
            refine norm_K fun K hK => ?_
            change wpList _ _ _ [_, _, _, _, _, _, _, _, _, _, _] _ _
            have hb21 : Below wa.heap.size wa wa.drew := (by repeat (first | exact Below.refl _ _ | apply blw_drew | apply blw_alloc | (refine blw_set ?_ (by first | omega | (simp; done) | (simp; omega)) _) | refine below_chain ?_ (by assumption)))
            have hx0 := hx0.below hb21; have hx1 := hx1.below hb21; have d00 := kept hb21 d00; have d01 := kept hb21 d01; have d10 := kept hb21 d10; have d11 := kept hb21 d11; have hr := hr.below hb21; have ca1 := kept hb21 ca1; have cb1 := kept hb21 cb1; have cc1 := kept hb21 cc1; have cr1 := kept hb21 cr1; have cs1 := kept hb21 cs1; have cq1 := kept hb21 cq1; have er1 := er1.below hb21; have es1 := es1.below hb21; have eq1 := eq1.below hb21; have ho := ho.below hb21; have bc1 := kept hb21 bc1
            generalize wa.drew = wq at *
            have hoF := ho
            have hoA := ho
            go_wp2_with fail
            refine (own_c es1.sl (by rw [LV.out]; omega) (by rw [LV.out]; omega)).mono ?_; rintro e w22 ⟨z1, rfl, hv2, hb22⟩
            have hx0 := hx0.below hb22; have hx1 := hx1.below hb22; have d00 := kept hb22 d00; have d01 := kept hb22 d01; have d10 := kept hb22 d10; have d11 := kept hb22 d11; have hr := hr.below hb22; have ca1 := kept hb22 ca1; have cb1 := kept hb22 cb1; have cc1 := kept hb22 cc1; have cr1 := kept hb22 cr1; have cs1 := kept hb22 cs1; have cq1 := kept hb22 cq1; have er1 := er1.below hb22; have es1 := es1.below hb22; have eq1 := eq1.below hb22; have ho := ho.below hb22; have bc1 := kept hb22 bc1
            go_wp2_with fail
            have hz0 : Below wq.heap.size wq w22 := (by repeat (first | exact Below.refl _ _ | apply blw_drew | apply blw_alloc | (refine blw_set ?_ (by first | omega | (simp; done) | (simp; omega)) _) | refine below_chain ?_ (by assumption)))
            first | (refine hK _ _ ⟨hz0, ?_⟩; clear hK K) | refine ⟨hz0, ?_⟩
            clear hz0
            refine norm_K fun K hK => ?_
            change wpList _ _ _ [_] _ _
            have hf := hoF.fresh hv2
            obtain ⟨g2, cap2, rfl, hv2o⟩ := id hv2
            have hoW := ho
            have hb23 : Below w22.heap.size w22 (w22.alloc (.cells #[.slice (some ⟨g2, 0, none⟩) (v1_).length cap2] 22)) := (by repeat (first | exact Below.refl _ _ | apply blw_drew | apply blw_alloc | (refine blw_set ?_ (by first | omega | (simp; done) | (simp; omega)) _) | refine below_chain ?_ (by assumption)))
            have hx0 := hx0.below hb23; have hx1 := hx1.below hb23; have d00 := kept hb23 d00; have d01 := kept hb23 d01; have d10 := kept hb23 d10; have d11 := kept hb23 d11; have hr := hr.below hb23; have ca1 := kept hb23 ca1; have cb1 := kept hb23 cb1; have cc1 := kept hb23 cc1; have cr1 := kept hb23 cr1; have cs1 := kept hb23 cs1; have cq1 := kept hb23 cq1; have er1 := er1.below hb23; have es1 := es1.below hb23; have eq1 := eq1.below hb23; have ho := ho.below hb23; have bc1 := kept hb23 bc1
            have x0 : (w22.alloc (.cells #[.slice (some ⟨g2, 0, none⟩) (v1_).length cap2] 22)).cell? ⟨w22.heap.size, 0, none⟩ = some (.slice (some ⟨g2, 0, none⟩) (v1_).length cap2) := by simp [go_sem]
            go_wp2_with fail
            have hz1 : Below wq.heap.size wq (w22.alloc (.cells #[.slice (some ⟨g2, 0, none⟩) (v1_).length cap2] 22)) := (by repeat (first | exact Below.refl _ _ | apply blw_drew | apply blw_alloc | (refine blw_set ?_ (by first | omega | (simp; done) | (simp; omega)) _) | refine below_chain ?_ (by assumption)))
            first | (refine hK _ _ ⟨hz1, ?_⟩; clear hK K) | refine ⟨hz1, ?_⟩
            clear hz1
            refine norm_K fun K hK => ?_
            change wpList _ _ _ [_, _, _] _ _
            go_wp2_with (at_builtin; refine appr_one rfl _ _ rfl w22 (w1.heap.size + 1) _ rfl uv us rfl (.slice (some ⟨g2, 0, none⟩) (v1_).length cap2) 1 rfl rfl hoW.ou (by have := hoW.bx.lt; simp; omega) (by have := HU.out; omega) ?_; intro g3 cap3 w3 hown3 hgb3 hg3 hge3; have bx' := hoW.bx.bl hgb3 (Nat.lt_succ_self _); have bc1 := bx'.c1; have bf1 := bx'.f1)
            first | (refine hK _ _ ⟨rfl, ?_⟩; clear hK K) | refine ⟨rfl, ?_⟩
            have hbz : Below w1.heap.size w1 (w3.setCell ⟨w1.heap.size, 1, none⟩ (.slice (some ⟨g3, 0, none⟩) (us.length + 1) cap3)) := blw_set ((show Below w1.heap.size w1 w22 from below_chain hba (by repeat (first | exact Below.refl _ _ | apply blw_drew | apply blw_alloc | (refine blw_set ?_ (by first | omega | (simp; done) | (simp; omega)) _) | refine below_chain ?_ (by assumption)))).trans (hgb3.mono HN.out)) HM.out _
            have hz := hoW.row (hv2.more (by have := hoA.bx.lt; first | omega | (simp; omega))) hf.1 hf.2 hown3 hgb3 hg3
            go_wp2_with fail
            go_roundw
            case rel => exact ⟨2 + 1, _, _, _, by omega, rfl, hz, hbz⟩
            case measure => simp [intOf]
          · skip
            have hx0 := hx0_.below hb
            have hx1 := hx1_.below hb
            have d00 := kept hb d00_
            have d01 := kept hb d01_
            have d10 := kept hb d10_
            have d11 := kept hb d11_
            have hr := hr_.below hb
            have ca1 := kept hb ca1_
            have cb1 := kept hb cb1_
            have cc1 := kept hb cc1_
            have cr1 := kept hb cr1_
            have cs1 := kept hb cs1_
            have cq1 := kept hb cq1_
            have er1 := er1_.below hb
            have es1 := es1_.below hb
            have eq1 := eq1_.below hb
            have hfr := ho.frh (by have := HD.out; omega) (by have := HU.out; omega)
            obtain ⟨gd, cd, rfl, _⟩ := ho.od.fr (by have := HD.out; omega)
            obtain ⟨gu, cu, rfl, _⟩ := World.ownsRow.form ho.ou (by have := HU.out; omega)
            have bc0 := ho.bx.c0; have bc1 := ho.bx.c1
            have rc0 := hr.c0; have rc1 := hr.c1; have rf0 := hr.f0; have rf1 := hr.f1
            have hbe := below_chain (show Below w.heap.size w w1 from (by repeat (first | exact Below.refl _ _ | apply blw_drew | apply blw_alloc | (refine blw_set ?_ (by first | omega | (simp; done) | (simp; omega)) _) | refine below_chain ?_ (by assumption)))) hb
            have hz1_ : w.heap.size + 1 + 1 + 1 + 1 ≤ w1.heap.size := by have := hb1.size; have := HWs.out; omega
            go_wp2_with fail
            refine bodyPost_ret (v := .tuple #[.agg #[.slice (some ⟨gd, 0, none⟩) (tdgS ⟨[a1_, b1_, c1_], [u1_, v1_, t1_]⟩ 2 3).length cd, .slice (some ⟨gu, 0, none⟩) us.length cu], .int .i64 0]) (by simp [results, Try.results32, go_sem, rc0, rc1]) rfl ⟨_, rfl, .inr ?_, ?_⟩
            · exact ((hfr.set_ (by first | omega | (simp; done) | (simp; omega)) _).set_ (by first | omega | (simp; done) | (simp; omega)) _).more (by omega)
            · exact blw_set (blw_set hbe (by first | omega | (simp; done) | (simp; omega)) _) (by first | omega | (simp; done) | (simp; omega)) _
    · have h3 : inR n2 0 2 = false := by simpa using h2
      have e1 : RTurnRows1 p0 st0 X1 n2 = 2 := by unfold RTurnRows1; rw [if_pos h0, if_neg h2]
      rw [show RTurnRows0 p0 st0 X1 n2 = ⟨[], []⟩ from if_neg (by rw [e1]; decide), e1]
      clear e1
      go_enter Try.func32, Try.ntmps32
      go_wp2_with fail
      refine hcon.mono ?_; rintro e w1 ⟨rfl, hb1⟩
      rw [← hW] at hb1
      clear hW hcon
      have hx0 := hx0.below hb1; have hx1 := hx1.below hb1; have d00 := kept hb1 d00; have d01 := kept hb1 d01; have d10 := kept hb1 d10; have d11 := kept hb1 d11; have hr := hr.below hb1
      go_wp2_with fail
      refine (sin_c).mono ?_; rintro e w22 ⟨rfl, rfl⟩
      have rc0 := hr.c0; have rc1 := hr.c1; have rf0 := hr.f0; have rf1 := hr.f1
      go_wp2_with fail
      refine bodyPost_ret (v := .tuple #[.agg #[.slice none 0 0, .slice none 0 0], .int .i64 2]) (by simp [results, Try.results32, go_sem, rc0, rc1]) rfl ⟨_, rfl, .inl ⟨rfl, rfl⟩, ?_⟩
      exact blw_set (blw_set (by repeat (first | exact Below.refl _ _ | apply blw_drew | apply blw_alloc | (refine blw_set ?_ (by first | omega | (simp; done) | (simp; omega)) _) | refine below_chain ?_ (by assumption))) (by first | omega | (simp; done) | (simp; omega)) _) (by first | omega | (simp; done) | (simp; omega)) _
  · have e1 : RTurnRows1 p0 st0 X1 n2 = chkH p0 st0 [X1] := by unfold RTurnRows1; rw [if_neg h0]
    rw [show RTurnRows0 p0 st0 X1 n2 = ⟨[], []⟩ from if_neg (by rw [e1]; exact h0), e1]; clear e1
    obtain ⟨k, hk⟩ : ∃ k, k = chkH p0 st0 [X1] := ⟨_, rfl⟩
    rw [← hk] at h0 hcon ⊢
    clear hk
    have hne : (k == 0) = false := by simpa using h0
    go_enter Try.func32, Try.ntmps32
    go_wp2_with fail
    refine hcon.mono ?_; rintro e w1 ⟨rfl, hb1⟩
    rw [← hW] at hb1
    clear hW hcon
    have hr := hr.below hb1
    have rc0 := hr.c0; have rc1 := hr.c1; have rf0 := hr.f0; have rf1 := hr.f1
    go_wp2_with fail
    refine bodyPost_ret (v := .tuple #[.agg #[.slice none 0 0, .slice none 0 0], .int .i64 k]) (by simp [results, Try.results32, go_sem, rc0, rc1]) rfl ⟨_, rfl, .inl ⟨rfl, rfl⟩, ?_⟩
    exact blw_set (blw_set (by repeat (first | exact Below.refl _ _ | apply blw_drew | apply blw_alloc | (refine blw_set ?_ (by first | omega | (simp; done) | (simp; omega)) _) | refine below_chain ?_ (by assumption))) (by first | omega | (simp; done) | (simp; omega)) _) (by first | omega | (simp; done) | (simp; omega)) _
end Go.Proofs.Ytbfonghjlghncaa
