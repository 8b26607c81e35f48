/- Texts joined for a claim: CNormalPoint, MarkJ, LawT. -/
import Derived.Test.YtgcelfnjijhmkaaGreatHdA
import Derived.Test.YtgcelfnjijhmkaaGreatJbb
import Derived.Test.YtgcelfnjijhmkaaGreatJan
import Derived.Test.YtgcelfnjijhmkaaGreatJao
/-
  NormalPoint: the program's and the reference's.
-/
namespace Go.Proofs.YtgcelfnjijhmkaaGreat
open Go.RowKit

def RNormalPoint1 (p0 : Int) (st0 : List Int) (X1 : Her) : Int := ptsH p0 st0 [X1]
def RNormalPoint0 (p0 : Int) (st0 : List Int) (X1 : Her) : Her := if RNormalPoint1 p0 st0 X1 = 0 then multH p0 X1 (invL p0 ((numsH X1).getD (leadN (numsH X1)) 0)) else ⟨[], []⟩
set_option maxHeartbeats 2000000 in
set_option maxRecDepth 100000 in
theorem iNormalPoint_c {p0 : Int} {x0 : Value} {st0 : List Int} {x1 : Value} {X1 : Her} {w : World} (hx0 : El w x0 st0) (hm0 : st0.length ≤ 1048576) (hx1 : Hv w x1 X1) (hz1 : Hsz X1) :
    Calls Tryz.prog 16 #[.agg #[.int .i64 p0, x0], x1] w fun e w' => ∃ v0, e = .returned (.tuple #[v0, .int .i64 (RNormalPoint1 p0 st0 X1)]) ∧ OwH w' w.heap.size v0 (RNormalPoint0 p0 st0 X1) ∧ Below w.heap.size w w' := by
  obtain ⟨a0, c0, rfl, _⟩ := id hx0.op
  obtain ⟨dv1, uv1, rfl, hd1_, hu1_⟩ := id hx1; obtain ⟨a1, c1, rfl, _⟩ := id hd1_.op; obtain ⟨b1, e1, rfl, _⟩ := id hu1_; clear hd1_ hu1_
  obtain ⟨W, hW⟩ : ∃ W, W = ((((w.alloc (.cells #[.int .i64 p0, .slice a0 st0.length c0] 26)).alloc (.cells #[.slice a1 X1.dg.length c1, .slice b1 X1.up.length e1] 31)).alloc (.cells #[.slice none 0 0, .slice none 0 0] 31)).alloc (.cells #[.slice a1 X1.dg.length c1, .slice b1 X1.up.length e1] 31)) := ⟨_, rfl⟩
  have hbW : Below w.heap.size w W := by rw [hW]; exact (by repeat (first | exact .refl _ _ | apply bwD | apply bwA | (refine bwS ?_ (by first | omega | simp <;> omega) _) | refine bwC ?_ (by assumption)))
  have hx0 := hx0.below hbW
  have hx1 := hx1.below hbW
  have d00 : W.cell? ⟨w.heap.size, 0, none⟩ = some (.int .i64 p0) := by rw [hW]; simp [go_sem]
  have d01 : W.cell? ⟨w.heap.size, 1, none⟩ = some (.slice a0 st0.length c0) := by rw [hW]; simp [go_sem]
  have d10 : W.cell? ⟨w.heap.size + 1, 0, none⟩ = some (.slice a1 X1.dg.length c1) := by rw [hW]; simp [go_sem]
  have d11 : W.cell? ⟨w.heap.size + 1, 1, none⟩ = some (.slice b1 X1.up.length e1) := by rw [hW]; simp [go_sem]
  have hr : Bx W (w.heap.size + 1 + 1) (.slice none 0 0) (.slice none 0 0) := by rw [hW]; exact Bx.below (by unfold Bx; rw [show w.heap.size + 1 + 1 = ((w.alloc (.cells #[.int .i64 p0, .slice a0 st0.length c0] 26)).alloc (.cells #[.slice a1 X1.dg.length c1, .slice b1 X1.up.length e1] 31)).heap.size by simp]; exact heap_alloc_new _ _) (by repeat (first | exact .refl _ _ | apply bwD | apply bwA | (refine bwS ?_ (by first | omega | simp <;> omega) _) | refine bwC ?_ (by assumption)))
  have hWs : W.heap.size = w.heap.size + 1 + 1 + 1 + 1 := by rw [hW]; simp
  have gl : Lh W (.slice (some ⟨w.heap.size + 1 + 1 + 1, 0, none⟩) 1 1) [X1] := Lh.one hx1 (by rw [hW]; simp [go_sem]) (by rw [hW]; simp [go_sem])
  have hcon := chkp_c (p := p0) hx0 hm0 gl (by intro X hX; simp at hX; subst hX; exact hz1) (by simp)
  have HWs := Lib.hid hWs; clear hWs
  rw [hW] at hcon
  by_cases h0 : ptsH p0 st0 [X1] = 0
  · rw [h0] at hcon
    obtain ⟨⟨hd, hall⟩, hpt⟩ := ptsH_pos h0
    have HPT := Lib.hid hpt; clear hpt
    have hX1 : isH p0 (sz st0.length) X1 = true := by simp at hall; exact hall
    clear hall
    have e1 : RNormalPoint1 p0 st0 X1 = 0 := h0
    rw [show RNormalPoint0 p0 st0 X1 = multH p0 X1 (invL p0 ((numsH X1).getD (leadN (numsH X1)) 0)) from if_pos e1, e1]
    clear e1
    have hp1 := hd.hp.lo; have hp2 := hd.hp.hi; have hsz := sz_le hd
    have hpt := HPT.out
    obtain ⟨kl, ka, kb⟩ := pt_lead hd hX1 (by simpa using hpt)
    clear hpt
    have l1 := nums_lt hX1 hsz.2
    obtain ⟨kk, hkk⟩ : ∃ k, k = leadN (numsH X1) := ⟨_, rfl⟩
    rw [← hkk] at kl ka kb
    obtain ⟨q, hq⟩ : ∃ q, q = (numsH X1).getD kk 0 := ⟨_, rfl⟩
    rw [← hq] at ka kb
    have HKK := Lib.hid hkk; have HQ := Lib.hid hq; clear hkk hq
    rw [← HKK.out, ← HQ.out]
    have hL := invL_fp (p := p0) (a := q) (by omega)
    go_enter Tryz.func16, Tryz.ntmps16
    go_wp2_with fail
    refine hcon.mono ?_; rintro e w1 ⟨rfl, hb1⟩
    rw [← hW] at hb1
    clear hW hcon
    have hx0 := hx0.below hb1; have hx1 := hx1.below hb1; have d00 := kept hb1 d00; have d01 := kept hb1 d01; have d10 := kept hb1 d10; have d11 := kept hb1 d11; have hr := hr.below hb1
    go_wp2_with fail
    refine (nums_c hx1 hX1 hsz.1 hsz.2).mono ?_; rintro e w22 ⟨v1, rfl, ⟨g1, k1_, rfl, o1⟩, hb22⟩
    have hx0 := hx0.below hb22; have hx1 := hx1.below hb22; have d00 := kept hb22 d00; have d01 := kept hb22 d01; have d10 := kept hb22 d10; have d11 := kept hb22 d11; have hr := hr.below hb22
    go_wp2_with fail
    refine region_flow [(false, [(0, 1), (1, 1), (2, 1), (4, 0), (5, 0), (3, 5)]), (false, [(6, 5)]), (false, [(7, 0), (8, 1), (9, 5)]), (false, [(10, 4), (11, 4), (12, 0)])] (by kernel_rfl) ?_
    refine norm_K fun K hK => ?_
    change wpList _ _ _ [_, _, _, _, _, _] _ _
    have hb23 : Below w22.heap.size w22 w22.drew := (by repeat (first | exact .refl _ _ | apply bwD | apply bwA | (refine bwS ?_ (by first | omega | simp <;> omega) _) | refine bwC ?_ (by assumption)))
    have hx0 := hx0.below hb23; have hx1 := hx1.below hb23; have d00 := kept hb23 d00; have d01 := kept hb23 d01; have d10 := kept hb23 d10; have d11 := kept hb23 d11; have hr := hr.below hb23; have o1 := o1.below hb23
    generalize w22.drew = wq at *
    have hzq_ : w1.heap.size ≤ wq.heap.size := (below_le (by repeat (first | exact .refl _ _ | apply bwD | apply bwA | (refine bwS ?_ (by first | omega | simp <;> omega) _) | refine bwC ?_ (by assumption))))
    go_wp2_with fail
    refine (dfield_c).mono ?_; rintro e w24 ⟨rfl, hb24⟩
    have hx0 := hx0.below hb24; have hx1 := hx1.below hb24; have d00 := kept hb24 d00; have d01 := kept hb24 d01; have d10 := kept hb24 d10; have d11 := kept hb24 d11; have hr := hr.below hb24; have o1 := o1.below hb24
    go_wp2_with fail
    have hz0 : Below wq.heap.size wq w24 := (by repeat (first | exact .refl _ _ | apply bwD | apply bwA | (refine bwS ?_ (by first | omega | simp <;> omega) _) | refine bwC ?_ (by assumption)))
    first | (refine hK _ _ ⟨hz0, ?_⟩; clear hK K) | refine ⟨hz0, ?_⟩
    clear hz0
    refine norm_K fun K hK => ?_
    change wpList _ _ _ [_] _ _
    go_wp2_with fail
    refine (lead_c o1.sl (by omega)).mono ?_; rintro e w25 ⟨rfl, rfl⟩
    rw [← HKK.out]
    go_wp2_with fail
    have hz1 : Below wq.heap.size wq w24 := (by repeat (first | exact .refl _ _ | apply bwD | apply bwA | (refine bwS ?_ (by first | omega | simp <;> omega) _) | refine bwC ?_ (by assumption)))
    first | (refine hK _ _ ⟨hz1, ?_⟩; clear hK K) | refine ⟨hz1, ?_⟩
    clear hz1
    refine norm_K fun K hK => ?_
    change wpList _ _ _ [_, _, _] _ _
    have ce := o1.at kk kl; rw [Nat.zero_add, ← HQ.out] at ce
    go_wp2_with fail
    refine (inv_c (p := p0) (a := q) (by omega) (by omega) (by omega) (by omega)).mono ?_; rintro e w26 ⟨rfl, rfl⟩
    go_wp2_with fail
    have hz2 : Below wq.heap.size wq w24 := (by repeat (first | exact .refl _ _ | apply bwD | apply bwA | (refine bwS ?_ (by first | omega | simp <;> omega) _) | refine bwC ?_ (by assumption)))
    first | (refine hK _ _ ⟨hz2, ?_⟩; clear hK K) | refine ⟨hz2, ?_⟩
    clear hz2
    refine norm_K fun K hK => ?_
    change wpList _ _ _ [_, _, _] _ _
    have hzc_ : w1.heap.size ≤ (w24).heap.size := (below_le (by repeat (first | exact .refl _ _ | apply bwD | apply bwA | (refine bwS ?_ (by first | omega | simp <;> omega) _) | refine bwC ?_ (by assumption))))
    (try simp at hzc_)
    go_wp2_with fail
    refine (mult_c (k := invL p0 q) hd hx0 hx1 hX1 (by omega) (by omega)).mono ?_; rintro e w27 ⟨v, rfl, hv, hb27⟩
    have hx0 := hx0.below hb27; have hx1 := hx1.below hb27; have d00 := kept hb27 d00; have d01 := kept hb27 d01; have d10 := kept hb27 d10; have d11 := kept hb27 d11; have hr := hr.below hb27; have o1 := o1.below hb27
    obtain ⟨d, u, us, rfl, ⟨g1, cap1, rfl, h1⟩, hu, hne⟩ := id hv
    obtain ⟨g2, cap2, rfl, _⟩ := id hu
    have hul : us.length = 3 := by obtain ⟨_, _, _, _, h, _⟩ := hu; exact h
    have HU := Lib.hid hul; clear hul
    have hu3 : (multH p0 X1 (invL p0 q)).up.length = 3 := (isH_parts (multH_is (p := p0) (by omega) hX1)).2.2.1
    have hu4 : (multH p0 X1 (invL p0 q)).dg.length = 3 := (isH_parts (multH_is (p := p0) (by omega) hX1)).1
    have hz1_ : w.heap.size + 1 + 1 + 1 + 1 ≤ w1.heap.size := by have := hb1.size; have := HWs.out; omega
    have rc0 := hr.c0; have rc1 := hr.c1; have rf0 := hr.f0; have rf1 := hr.f1
    go_wp2_with fail
    first | (refine hK _ _ ⟨rfl, ?_⟩; clear hK K) | refine ⟨rfl, ?_⟩
    go_wp2_with fail
    refine bodyPost_ret (v := .tuple #[.agg #[.slice (some ⟨g1, 0, none⟩) (multH p0 X1 (invL p0 q)).dg.length cap1, .slice (some ⟨g2, 0, none⟩) us.length cap2], .int .i64 0]) (by simp [results, Tryz.results16, go_sem, rc0, rc1, HU.out, hu3, hu4]) rfl ⟨_, rfl, .inr ?_, ?_⟩
    · exact ((hv.set_ (by first | omega | simp <;> omega) _).set_ (by first | omega | simp <;> omega) _).more (below_le (by repeat (first | exact .refl _ _ | apply bwD | apply bwA | (refine bwS ?_ (by first | omega | simp <;> omega) _) | refine bwC ?_ (by assumption))))
    · exact bwS (bwS (by repeat (first | exact .refl _ _ | apply bwD | apply bwA | (refine bwS ?_ (by first | omega | simp <;> omega) _) | refine bwC ?_ (by assumption))) (by first | omega | simp <;> omega) _) (by first | omega | simp <;> omega) _
  · have e1 : RNormalPoint1 p0 st0 X1 = ptsH p0 st0 [X1] := rfl
    rw [show RNormalPoint0 p0 st0 X1 = ⟨[], []⟩ from if_neg (by rw [e1]; exact h0), e1]; clear e1
    obtain ⟨k, hk⟩ : ∃ k, k = ptsH p0 st0 [X1] := ⟨_, rfl⟩
    rw [← hk] at h0 hcon ⊢
    clear hk
    have hne : (k == 0) = false := by simpa using h0
    go_enter Tryz.func16, Tryz.ntmps16
    go_wp2_with fail
    refine hcon.mono ?_; rintro e w1 ⟨rfl, hb1⟩
    rw [← hW] at hb1
    clear hW hcon
    have hr := hr.below hb1
    have rc0 := hr.c0; have rc1 := hr.c1; have rf0 := hr.f0; have rf1 := hr.f1
    go_wp2_with fail
    refine bodyPost_ret (v := .tuple #[.agg #[.slice none 0 0, .slice none 0 0], .int .i64 k]) (by simp [results, Tryz.results16, go_sem, rc0, rc1]) rfl ⟨_, rfl, .inl ⟨rfl, rfl⟩, ?_⟩
    exact bwS (bwS (by repeat (first | exact .refl _ _ | apply bwD | apply bwA | (refine bwS ?_ (by first | omega | simp <;> omega) _) | refine bwC ?_ (by assumption))) (by first | omega | simp <;> omega) _) (by first | omega | simp <;> omega) _
set_option maxHeartbeats 2000000 in
set_option maxRecDepth 100000 in
theorem sNormalPoint_c {p0 : Int} {x0 : Value} {st0 : List Int} {x1 : Value} {X1 : Her} {w : World} (hx0 : El w x0 st0) (hm0 : st0.length ≤ 1048576) (hx1 : Hv w x1 X1) (hz1 : Hsz X1) :
    Calls Tryz.prog 17 #[.agg #[.int .i64 p0, x0], x1] w fun e w' => ∃ v0, e = .returned (.tuple #[v0, .int .i64 (RNormalPoint1 p0 st0 X1)]) ∧ OwH w' w.heap.size v0 (RNormalPoint0 p0 st0 X1) ∧ Below w.heap.size w w' := by
  obtain ⟨a0, c0, rfl, _⟩ := id hx0.op
  obtain ⟨dv1, uv1, rfl, hd1_, hu1_⟩ := id hx1; obtain ⟨a1, c1, rfl, _⟩ := id hd1_.op; obtain ⟨b1, e1, rfl, _⟩ := id hu1_; clear hd1_ hu1_
  obtain ⟨W, hW⟩ : ∃ W, W = ((((w.alloc (.cells #[.int .i64 p0, .slice a0 st0.length c0] 26)).alloc (.cells #[.slice a1 X1.dg.length c1, .slice b1 X1.up.length e1] 31)).alloc (.cells #[.slice none 0 0, .slice none 0 0] 31)).alloc (.cells #[.slice a1 X1.dg.length c1, .slice b1 X1.up.length e1] 31)) := ⟨_, rfl⟩
  have hbW : Below w.heap.size w W := by rw [hW]; exact (by repeat (first | exact .refl _ _ | apply bwD | apply bwA | (refine bwS ?_ (by first | omega | simp <;> omega) _) | refine bwC ?_ (by assumption)))
  have hx0 := hx0.below hbW
  have hx1 := hx1.below hbW
  have d00 : W.cell? ⟨w.heap.size, 0, none⟩ = some (.int .i64 p0) := by rw [hW]; simp [go_sem]
  have d01 : W.cell? ⟨w.heap.size, 1, none⟩ = some (.slice a0 st0.length c0) := by rw [hW]; simp [go_sem]
  have d10 : W.cell? ⟨w.heap.size + 1, 0, none⟩ = some (.slice a1 X1.dg.length c1) := by rw [hW]; simp [go_sem]
  have d11 : W.cell? ⟨w.heap.size + 1, 1, none⟩ = some (.slice b1 X1.up.length e1) := by rw [hW]; simp [go_sem]
  have hr : Bx W (w.heap.size + 1 + 1) (.slice none 0 0) (.slice none 0 0) := by rw [hW]; exact Bx.below (by unfold Bx; rw [show w.heap.size + 1 + 1 = ((w.alloc (.cells #[.int .i64 p0, .slice a0 st0.length c0] 26)).alloc (.cells #[.slice a1 X1.dg.length c1, .slice b1 X1.up.length e1] 31)).heap.size by simp]; exact heap_alloc_new _ _) (by repeat (first | exact .refl _ _ | apply bwD | apply bwA | (refine bwS ?_ (by first | omega | simp <;> omega) _) | refine bwC ?_ (by assumption)))
  have hWs : W.heap.size = w.heap.size + 1 + 1 + 1 + 1 := by rw [hW]; simp
  have gl : Lh W (.slice (some ⟨w.heap.size + 1 + 1 + 1, 0, none⟩) 1 1) [X1] := Lh.one hx1 (by rw [hW]; simp [go_sem]) (by rw [hW]; simp [go_sem])
  have hcon := sl17p_c (p := p0) hx0 hm0 gl (by intro X hX; simp at hX; subst hX; exact hz1) (by simp)
  have HWs := Lib.hid hWs; clear hWs
  rw [hW] at hcon
  by_cases h0 : ptsH p0 st0 [X1] = 0
  · rw [h0] at hcon
    obtain ⟨⟨hd, hall⟩, hpt⟩ := ptsH_pos h0
    have HPT := Lib.hid hpt; clear hpt
    have hX1 : isH p0 (sz st0.length) X1 = true := by simp at hall; exact hall
    clear hall
    have e1 : RNormalPoint1 p0 st0 X1 = 0 := h0
    rw [show RNormalPoint0 p0 st0 X1 = multH p0 X1 (invL p0 ((numsH X1).getD (leadN (numsH X1)) 0)) from if_pos e1, e1]
    clear e1
    have hp1 := hd.hp.lo; have hp2 := hd.hp.hi; have hsz := sz_le hd
    have hpt := HPT.out
    obtain ⟨kl, ka, kb⟩ := pt_lead hd hX1 (by simpa using hpt)
    clear hpt
    have l1 := nums_lt hX1 hsz.2
    obtain ⟨kk, hkk⟩ : ∃ k, k = leadN (numsH X1) := ⟨_, rfl⟩
    rw [← hkk] at kl ka kb
    obtain ⟨q, hq⟩ : ∃ q, q = (numsH X1).getD kk 0 := ⟨_, rfl⟩
    rw [← hq] at ka kb
    have HKK := Lib.hid hkk; have HQ := Lib.hid hq; clear hkk hq
    rw [← HKK.out, ← HQ.out]
    have hL := invL_fp (p := p0) (a := q) (by omega)
    go_enter Tryz.func17, Tryz.ntmps17
    go_wp2_with fail
    refine hcon.mono ?_; rintro e w1 ⟨rfl, hb1⟩
    rw [← hW] at hb1
    clear hW hcon
    have hx0 := hx0.below hb1; have hx1 := hx1.below hb1; have d00 := kept hb1 d00; have d01 := kept hb1 d01; have d10 := kept hb1 d10; have d11 := kept hb1 d11; have hr := hr.below hb1
    go_wp2_with fail
    refine (sflat_c hx1 hX1 hsz.1 hsz.2).mono ?_; rintro e w22 ⟨v1, rfl, ⟨g1, k1_, rfl, o1⟩, hb22⟩
    have hx0 := hx0.below hb22; have hx1 := hx1.below hb22; have d00 := kept hb22 d00; have d01 := kept hb22 d01; have d10 := kept hb22 d10; have d11 := kept hb22 d11; have hr := hr.below hb22
    go_wp2_with fail
    refine region_flow [(false, [(0, 1), (1, 0), (2, 1), (3, 0), (4, 0), (9, 1), (5, 5)]), (false, [(6, 0), (7, 1), (8, 5)]), (false, [(10, 4), (11, 4), (12, 0)])] (by kernel_rfl) ?_
    refine norm_K fun K hK => ?_
    change wpList _ _ _ [_, _, _, _, _, _, _] _ _
    have hb23 : Below w22.heap.size w22 w22.drew := (by repeat (first | exact .refl _ _ | apply bwD | apply bwA | (refine bwS ?_ (by first | omega | simp <;> omega) _) | refine bwC ?_ (by assumption)))
    have hx0 := hx0.below hb23; have hx1 := hx1.below hb23; have d00 := kept hb23 d00; have d01 := kept hb23 d01; have d10 := kept hb23 d10; have d11 := kept hb23 d11; have hr := hr.below hb23; have o1 := o1.below hb23
    generalize w22.drew = wq at *
    have hzq_ : w1.heap.size ≤ wq.heap.size := (below_le (by repeat (first | exact .refl _ _ | apply bwD | apply bwA | (refine bwS ?_ (by first | omega | simp <;> omega) _) | refine bwC ?_ (by assumption))))
    go_wp2_with fail
    refine (first_c o1.sl (by omega)).mono ?_; rintro e w24 ⟨rfl, rfl⟩
    rw [← HKK.out]
    go_wp2_with fail
    have hz0 : Below wq.heap.size wq wq := (by repeat (first | exact .refl _ _ | apply bwD | apply bwA | (refine bwS ?_ (by first | omega | simp <;> omega) _) | refine bwC ?_ (by assumption)))
    first | (refine hK _ _ ⟨hz0, ?_⟩; clear hK K) | refine ⟨hz0, ?_⟩
    clear hz0
    refine norm_K fun K hK => ?_
    change wpList _ _ _ [_, _, _] _ _
    have ce := o1.at kk kl; rw [Nat.zero_add, ← HQ.out] at ce
    go_wp2_with fail
    refine (sinv_c hd.hp ka kb).mono ?_; rintro e w25 ⟨rfl, rfl⟩
    go_wp2_with fail
    have hz1 : Below wq.heap.size wq wq := (by repeat (first | exact .refl _ _ | apply bwD | apply bwA | (refine bwS ?_ (by first | omega | simp <;> omega) _) | refine bwC ?_ (by assumption)))
    first | (refine hK _ _ ⟨hz1, ?_⟩; clear hK K) | refine ⟨hz1, ?_⟩
    clear hz1
    refine norm_K fun K hK => ?_
    change wpList _ _ _ [_, _, _] _ _
    have hzc_ : w1.heap.size ≤ (wq).heap.size := (below_le (by repeat (first | exact .refl _ _ | apply bwD | apply bwA | (refine bwS ?_ (by first | omega | simp <;> omega) _) | refine bwC ?_ (by assumption))))
    (try simp at hzc_)
    go_wp2_with fail
    refine (sscale16_c (k := invL p0 q) hd hx0 hx1 hX1 (by omega) (by omega)).mono ?_; rintro e w26 ⟨v, rfl, hv, hb26⟩
    have hx0 := hx0.below hb26; have hx1 := hx1.below hb26; have d00 := kept hb26 d00; have d01 := kept hb26 d01; have d10 := kept hb26 d10; have d11 := kept hb26 d11; have hr := hr.below hb26; have o1 := o1.below hb26
    obtain ⟨d, u, us, rfl, ⟨g1, cap1, rfl, h1⟩, hu, hne⟩ := id hv
    obtain ⟨g2, cap2, rfl, _⟩ := id hu
    have hul : us.length = 3 := by obtain ⟨_, _, _, _, h, _⟩ := hu; exact h
    have HU := Lib.hid hul; clear hul
    have hu3 : (multH p0 X1 (invL p0 q)).up.length = 3 := (isH_parts (multH_is (p := p0) (by omega) hX1)).2.2.1
    have hu4 : (multH p0 X1 (invL p0 q)).dg.length = 3 := (isH_parts (multH_is (p := p0) (by omega) hX1)).1
    have hz1_ : w.heap.size + 1 + 1 + 1 + 1 ≤ w1.heap.size := by have := hb1.size; have := HWs.out; omega
    have rc0 := hr.c0; have rc1 := hr.c1; have rf0 := hr.f0; have rf1 := hr.f1
    go_wp2_with fail
    first | (refine hK _ _ ⟨rfl, ?_⟩; clear hK K) | refine ⟨rfl, ?_⟩
    go_wp2_with fail
    refine bodyPost_ret (v := .tuple #[.agg #[.slice (some ⟨g1, 0, none⟩) (multH p0 X1 (invL p0 q)).dg.length cap1, .slice (some ⟨g2, 0, none⟩) us.length cap2], .int .i64 0]) (by simp [results, Tryz.results17, go_sem, rc0, rc1, HU.out, hu3, hu4]) rfl ⟨_, rfl, .inr ?_, ?_⟩
    · exact ((hv.set_ (by first | omega | simp <;> omega) _).set_ (by first | omega | simp <;> omega) _).more (below_le (by repeat (first | exact .refl _ _ | apply bwD | apply bwA | (refine bwS ?_ (by first | omega | simp <;> omega) _) | refine bwC ?_ (by assumption))))
    · exact bwS (bwS (by repeat (first | exact .refl _ _ | apply bwD | apply bwA | (refine bwS ?_ (by first | omega | simp <;> omega) _) | refine bwC ?_ (by assumption))) (by first | omega | simp <;> omega) _) (by first | omega | simp <;> omega) _
  · have e1 : RNormalPoint1 p0 st0 X1 = ptsH p0 st0 [X1] := rfl
    rw [show RNormalPoint0 p0 st0 X1 = ⟨[], []⟩ from if_neg (by rw [e1]; exact h0), e1]; clear e1
    obtain ⟨k, hk⟩ : ∃ k, k = ptsH p0 st0 [X1] := ⟨_, rfl⟩
    rw [← hk] at h0 hcon ⊢
    clear hk
    have hne : (k == 0) = false := by simpa using h0
    go_enter Tryz.func17, Tryz.ntmps17
    go_wp2_with fail
    refine hcon.mono ?_; rintro e w1 ⟨rfl, hb1⟩
    rw [← hW] at hb1
    clear hW hcon
    have hr := hr.below hb1
    have rc0 := hr.c0; have rc1 := hr.c1; have rf0 := hr.f0; have rf1 := hr.f1
    go_wp2_with fail
    refine bodyPost_ret (v := .tuple #[.agg #[.slice none 0 0, .slice none 0 0], .int .i64 k]) (by simp [results, Tryz.results17, go_sem, rc0, rc1]) rfl ⟨_, rfl, .inl ⟨rfl, rfl⟩, ?_⟩
    exact bwS (bwS (by repeat (first | exact .refl _ _ | apply bwD | apply bwA | (refine bwS ?_ (by first | omega | simp <;> omega) _) | refine bwC ?_ (by assumption))) (by first | omega | simp <;> omega) _) (by first | omega | simp <;> omega) _
end Go.Proofs.YtgcelfnjijhmkaaGreat
/-
  Sizes of matrices that passed the laws' size check.
-/
namespace Go.Proofs.YtgcelfnjijhmkaaGreat
open Go.RowKit

end Go.Proofs.YtgcelfnjijhmkaaGreat
/-
  What the laws with a matrix as result need beside: results kept over a store into an older block.
-/
namespace Go.Proofs.YtgcelfnjijhmkaaGreat
open Go.RowKit

theorem OwH.set_ {w : World} {B : Nat} {v : Value} {X : Her} (h : OwH w B v X) {p : Addr} (hp : p.block < B) (u : Value) : OwH (w.setCell p u) B v X := by
  rcases h with h | h
  · exact .inl h
  · exact .inr (h.set_ hp u)
theorem OwH.hr {w : World} {B : Nat} {v : Value} {X : Her} (h : OwH w B v X) : Hr w v X := h.hv.hr
theorem Hs.none : Hs ⟨[], []⟩ := ⟨⟨by simp, by simp, fun xs hx => by simp at hx⟩, by simp [sumL]⟩
theorem isH_hs {p : Int} {st : List Int} {X : Her} (hd : Dok p st) (h : isH p (sz st.length) X = true) : Hs X := by
  have hs := sz_le hd
  obtain ⟨a, b, c, u, v, t, rfl, _, _, _, _, _, _, h1, h2, h3⟩ := isH_op h
  have e1 := h1.1; have e2 := h2.1; have e3 := h3.1
  refine ⟨⟨by simp, by simp, fun xs hx => ?_⟩, ?_⟩
  · simp only [List.mem_cons, List.not_mem_nil, or_false] at hx
    rcases hx with rfl | rfl | rfl <;> omega
  · simp only [sumL]; omega
end Go.Proofs.YtgcelfnjijhmkaaGreat
