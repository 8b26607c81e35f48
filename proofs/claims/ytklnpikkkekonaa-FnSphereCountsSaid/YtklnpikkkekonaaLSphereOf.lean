/-
  A sphere's place and number: the program's and the reference's, and the law.
-/
import Derived.Test.YtklnpikkkekonaaSphP
namespace Go.Proofs.Ytklnpikkkekonaa
open Go.RowKit

def RSphereOf2 (p : Int) (sq xs : List Int) : Int := if chkP p sq [] [xs] = 0 then (if weightL p sq xs = 0 then 5 else 0) else chkP p sq [] [xs]
def RSphereOf0 (p : Int) (sq xs : List Int) : List Int := if RSphereOf2 p sq xs = 0 then placeL p sq xs else []
def RSphereOf1 (p : Int) (sq xs : List Int) : Int := if RSphereOf2 p sq xs = 0 then pairL p (extL p sq) xs xs * invL p (weightL p sq xs) * invL p (weightL p sq xs) % p else 0
theorem placeL_len' {p : Int} {sq xs : List Int} (h : xs.length = sq.length + 2) : (placeL p sq xs).length = sq.length := by
  unfold placeL
  rw [scaleL_len, List.length_take]; omega
theorem placeL_fp {p : Int} {sq xs : List Int} (hp : 1 ≤ p) : Fp p (placeL p sq xs) := scaleL_fp hp
theorem RSphereOf0_len (p : Int) (sq xs : List Int) (_ : sq.length ≤ 1048576) (h : xs.length ≤ 1048576) : (RSphereOf0 p sq xs).length ≤ 1048576 := by
  unfold RSphereOf0 placeL
  split
  · rw [scaleL_len, List.length_take]; omega
  · simp
theorem fp_getD {p : Int} {xs : List Int} (hp : 1 ≤ p) (h : Fp p xs) (n : Nat) : 0 ≤ xs.getD n 0 ∧ xs.getD n 0 < p := by
  rw [List.getD_eq_getElem?_getD]
  cases hx : xs[n]? with
  | none => simp; omega
  | some y => exact h y (List.mem_of_getElem? hx)
theorem iSphereOf_c {p0 : Int} {x0 : Value} {sq0 : List Int} {x1 : Value} {xs1 : List Int} {w : World} (hx0 : Sl w x0 sq0) (hm0 : sq0.length ≤ 1048576) (hx1 : Sl w x1 xs1) (hm1 : xs1.length ≤ 1048576) (hc1 : Cp x1) :
    Calls Try.prog 8 #[.agg #[.int .i64 p0, x0], x1] w fun e w' => ∃ v0, e = .returned (.tuple #[v0, .int .i64 (RSphereOf1 p0 sq0 xs1), .int .i64 (RSphereOf2 p0 sq0 xs1)]) ∧ OwI w' w.heap.size v0 (RSphereOf0 p0 sq0 xs1) ∧ Below w.heap.size w w' := by
  obtain ⟨a0, c0, rfl, _⟩ := id hx0
  obtain ⟨a1, c1, rfl, _⟩ := id hx1
  obtain ⟨W, hW⟩ : ∃ W, W = ((w.alloc (.cells #[.int .i64 p0, .slice a0 sq0.length c0] 26)).alloc (.cells #[.slice a1 xs1.length c1] 24)) := ⟨_, rfl⟩
  have hbW : Below w.heap.size w W := by rw [hW]; exact (by repeat (first | exact Below.refl _ _ | apply blw_drew | apply blw_alloc | (refine blw_set ?_ (by first | omega | (simp; done) | (simp; omega)) _) | refine below_chain ?_ (by assumption)))
  have hx0 := hx0.below hbW
  have hx1 := hx1.below hbW
  have d00 : W.cell? ⟨w.heap.size, 0, none⟩ = some (.int .i64 p0) := by rw [hW]; simp [go_sem]
  have d01 : W.cell? ⟨w.heap.size, 1, none⟩ = some (.slice a0 sq0.length c0) := by rw [hW]; simp [go_sem]
  have gly : Rl W (.slice (some ⟨w.heap.size + 1, 0, none⟩) 1 1) [xs1] := Rl.one hx1 (by rw [hW]; simp [go_sem])
  have hcon := chkpl_c (p := p0) hx0 (Rl.nil _) gly hm0 (by simp) (by simp) (by simp) (by simpa using hm1)
  rw [hW] at hcon
  by_cases h0 : chkP p0 sq0 [] [xs1] = 0
  · rw [h0] at hcon
    obtain ⟨h1, h2, h3, h4⟩ := chkP_pos h0
    have hv := h4 xs1 (by simp)
    have H0 := Lib.hid h0
    clear h0 h3 h4
    obtain ⟨hp, n1, n2, hf⟩ := isSp_iff.1 h1
    have hp1 := hp.lo
    have hp2 := hp.hi
    have le := (isV_iff.1 hv).1
    rw [extL_len] at le
    have LE := Lib.hid le
    have L1 := Lib.hid (placeL_len' (p := p0) le)
    have hm1 : xs1.length ≤ 6 := by omega
    clear le
    have hno : weightL p0 sq0 xs1 = 0 → RSphereOf2 p0 sq0 xs1 = 5 ∧ RSphereOf0 p0 sq0 xs1 = [] ∧ RSphereOf1 p0 sq0 xs1 = 0 := fun h => by
      have e : RSphereOf2 p0 sq0 xs1 = 5 := by unfold RSphereOf2; rw [if_pos H0.out, if_pos h]
      exact ⟨e, by unfold RSphereOf0; rw [e]; rfl, by unfold RSphereOf1; rw [e]; rfl⟩
    have hyes : weightL p0 sq0 xs1 ≠ 0 → RSphereOf2 p0 sq0 xs1 = 0 ∧ RSphereOf0 p0 sq0 xs1 = placeL p0 sq0 xs1 ∧ RSphereOf1 p0 sq0 xs1 = pairL p0 (extL p0 sq0) xs1 xs1 * invL p0 (weightL p0 sq0 xs1) * invL p0 (weightL p0 sq0 xs1) % p0 := fun h => by
      have e : RSphereOf2 p0 sq0 xs1 = 0 := by unfold RSphereOf2; rw [if_pos H0.out, if_neg h]
      exact ⟨e, by unfold RSphereOf0; rw [e]; rfl, by unfold RSphereOf1; rw [e]; rfl⟩
    by_cases hw : weightL p0 sq0 xs1 = 0
    · skip
      obtain ⟨e2, e0, e1⟩ := hno hw
      rw [e0, e1, e2]
      have hb : (weightL p0 sq0 xs1 != 0) = false := by simp [hw]
      have HW := Lib.hid hw
      clear hno hyes e0 e1 e2 hw
      go_enter Try.func8, Try.ntmps8
      go_wp2_with fail
      refine hcon.mono ?_; rintro e w1 ⟨rfl, hb1⟩
      rw [← hW] at hb1
      clear hW hcon
      have d00 := kept hb1 d00; have d01 := kept hb1 d01; have hx0 := hx0.below hb1; have hx1 := hx1.below hb1
      go_wp2_with fail
      refine (finite_c h1 (by omega) hx0 hx1 hv).mono ?_; rintro e w22 ⟨v, rfl, hr1, hr2, hb22⟩
      have d00 := kept hb22 d00; have d01 := kept hb22 d01; have hx0 := hx0.below hb22; have hx1 := hx1.below hb22
      obtain rfl := hr2 HW.out
      simp only [hb]
      go_wp2_with fail
      go_ret3
      exact ⟨_, rfl, .inl ⟨rfl, rfl⟩, (by repeat (first | exact Below.refl _ _ | apply blw_drew | apply blw_alloc | (refine blw_set ?_ (by first | omega | (simp; done) | (simp; omega)) _) | refine below_chain ?_ (by assumption)))⟩
    · skip
      obtain ⟨e2, e0, e1⟩ := hyes hw
      rw [e0, e1, e2, ← sphere_number h1 LE.out hw]
      have hb : (weightL p0 sq0 xs1 != 0) = true := by simpa using hw
      have HW := Lib.hid hw
      clear hno hyes e0 e1 e2 hw
      have hA := fp_getD (p := p0) (by omega) (scaleL_fp (k := invL p0 (weightL p0 sq0 xs1)) (xs := xs1) (by omega)) sq0.length
      change 0 ≤ (finL p0 sq0 xs1).getD sq0.length 0 ∧ (finL p0 sq0 xs1).getD sq0.length 0 < p0 at hA
      have hB := fp_getD (p := p0) (by omega) (pointL_fp (p := p0) (sq := sq0) (v := placeL p0 sq0 xs1) (by omega)) sq0.length
      have lf : sq0.length < (finL p0 sq0 xs1).length := by unfold finL; rw [scaleL_len, LE.out]; omega
      have lp : sq0.length < (pointL p0 sq0 (placeL p0 sq0 xs1)).length := by rw [pointL_len L1.out]; omega
      have HP := Lib.hid (place_fin (p := p0) (sq := sq0) (x := xs1))
      have hv2 : isV p0 sq0 (placeL p0 sq0 xs1) = true := isV_iff.2 ⟨L1.out, placeL_fp (by omega)⟩
      obtain ⟨A, hAe⟩ : ∃ A, A = (finL p0 sq0 xs1).getD sq0.length 0 := ⟨_, rfl⟩
      obtain ⟨B, hBe⟩ : ∃ B, B = (pointL p0 sq0 (placeL p0 sq0 xs1)).getD sq0.length 0 := ⟨_, rfl⟩
      rw [← hAe] at hA
      rw [← hBe] at hB
      rw [← hAe, ← hBe]
      have HA := Lib.hid hAe
      have HB := Lib.hid hBe
      clear hAe hBe
      go_enter Try.func8, Try.ntmps8
      go_wp2_with fail
      refine hcon.mono ?_; rintro e w1 ⟨rfl, hb1⟩
      rw [← hW] at hb1
      clear hW hcon
      have d00 := kept hb1 d00; have d01 := kept hb1 d01; have hx0 := hx0.below hb1; have hx1 := hx1.below hb1
      go_wp2_with fail
      refine (finite_c h1 (by omega) hx0 hx1 hv).mono ?_; rintro e w22 ⟨v, rfl, hr1, hr2, hb22⟩
      have d00 := kept hb22 d00; have d01 := kept hb22 d01; have hx0 := hx0.below hb22; have hx1 := hx1.below hb22
      obtain ⟨g, cap, rfl, ho⟩ := hr1 HW.out
      simp only [hb]
      clear hr1 hr2
      have hcap := ho.caps
      simp only [maxLen] at hcap
      go_wp2_with fail
      refine (dim_c).mono ?_; rintro e w23 ⟨rfl, hb23⟩
      have d00 := kept hb23 d00; have d01 := kept hb23 d01; have hx0 := hx0.below hb23; have hx1 := hx1.below hb23; have ho := ho.below hb23
      have hsl : Sl w23 (.slice (some ⟨g, 0, none⟩) sq0.length cap) (placeL p0 sq0 xs1) := by
        have h := (ho.at.take sq0.length).sl (c := cap)
        rw [← HP.out, L1.out] at h
        exact h
      go_wp2_with fail
      refine (clone_c hsl (by rw [L1.out]; omega) (by rw [L1.out]; omega)).mono ?_; rintro e w24 ⟨c, rfl, hc, hb24⟩
      have d00 := kept hb24 d00; have d01 := kept hb24 d01; have hx0 := hx0.below hb24; have hx1 := hx1.below hb24; have ho := ho.below hb24
      have hcy : w24.cell? ⟨g, sq0.length, none⟩ = some (.int .i64 A) := by
        have h := ho.at sq0.length lf
        rw [Nat.zero_add, ← HA.out] at h
        exact h
      go_wp2_with fail
      refine region_flow [(false, [(0, 0), (1, 1), (3, 0), (4, 0), (5, 0), (6, 1), (7, 1), (8, 0), (10, 0), (2, 5)]), (false, [(9, 5)]), (false, [(11, 0), (12, 1), (13, 0), (14, 0), (15, 4), (16, 0), (17, 0), (18, 0)])] (by kernel_rfl) ?_
      refine norm_K fun K hK => ?_
      change wpList _ _ _ [_, _, _, _, _, _, _, _, _, _] _ _
      have hb25 : Below w24.heap.size w24 w24.drew := (by repeat (first | exact Below.refl _ _ | apply blw_drew | apply blw_alloc | (refine blw_set ?_ (by first | omega | (simp; done) | (simp; omega)) _) | refine below_chain ?_ (by assumption)))
      have d00 := kept hb25 d00; have d01 := kept hb25 d01; have hx0 := hx0.below hb25; have hx1 := hx1.below hb25; have ho := ho.below hb25; have hc := hc.below hb25; have hcy := kept hb25 hcy
      go_wp2_with fail
      refine (spfield_c).mono ?_; rintro e w26 ⟨rfl, hb26⟩
      have d00 := kept hb26 d00; have d01 := kept hb26 d01; have hx0 := hx0.below hb26; have hx1 := hx1.below hb26; have ho := ho.below hb26; have hc := hc.below hb26; have hcy := kept hb26 hcy
      go_wp2_with fail
      have hz0 : Below w24.drew.heap.size w24.drew w26 := (by repeat (first | exact Below.refl _ _ | apply blw_drew | apply blw_alloc | (refine blw_set ?_ (by first | omega | (simp; done) | (simp; omega)) _) | refine below_chain ?_ (by assumption)))
      first | (refine hK _ _ ⟨hz0, ?_⟩; clear hK K) | refine ⟨hz0, ?_⟩
      clear hz0
      refine norm_K fun K hK => ?_
      change wpList _ _ _ [_] _ _
      go_wp2_with fail
      refine (point_c h1 hx0 hc.sl hv2).mono ?_; rintro e w27 ⟨z, rfl, ⟨g2, cap2, rfl, hz⟩, hb27⟩
      have d00 := kept hb27 d00; have d01 := kept hb27 d01; have hx0 := hx0.below hb27; have hx1 := hx1.below hb27; have ho := ho.below hb27; have hc := hc.below hb27; have hcy := kept hb27 hcy
      go_wp2_with fail
      have hz1 : Below w24.drew.heap.size w24.drew w27 := (by repeat (first | exact Below.refl _ _ | apply blw_drew | apply blw_alloc | (refine blw_set ?_ (by first | omega | (simp; done) | (simp; omega)) _) | refine below_chain ?_ (by assumption)))
      first | (refine hK _ _ ⟨hz1, ?_⟩; clear hK K) | refine ⟨hz1, ?_⟩
      clear hz1
      refine norm_K fun K hK => ?_
      change wpList _ _ _ [_, _, _, _, _, _, _, _] _ _
      have hcz := hz.at sq0.length lp
      rw [Nat.zero_add, ← HB.out] at hcz
      go_wp2_with fail
      refine (num_c (by omega) (by omega)).mono ?_; rintro e w28 ⟨rfl, rfl⟩
      go_wp2_with fail
      first | (refine hK _ _ ⟨rfl, ?_⟩; clear hK K) | refine ⟨rfl, ?_⟩
      go_wp2_with fail
      go_ret3
      exact ⟨_, rfl, hc.ow (below_le (by repeat (first | exact Below.refl _ _ | apply blw_drew | apply blw_alloc | (refine blw_set ?_ (by first | omega | (simp; done) | (simp; omega)) _) | refine below_chain ?_ (by assumption)))), (by repeat (first | exact Below.refl _ _ | apply blw_drew | apply blw_alloc | (refine blw_set ?_ (by first | omega | (simp; done) | (simp; omega)) _) | refine below_chain ?_ (by assumption)))⟩
  · have e2 : RSphereOf2 p0 sq0 xs1 = chkP p0 sq0 [] [xs1] := by unfold RSphereOf2; rw [if_neg h0]
    rw [show RSphereOf0 p0 sq0 xs1 = [] by unfold RSphereOf0; rw [e2, if_neg h0], show RSphereOf1 p0 sq0 xs1 = 0 by unfold RSphereOf1; rw [e2, if_neg h0], e2]
    clear e2
    obtain ⟨k, hk⟩ : ∃ k, k = chkP p0 sq0 [] [xs1] := ⟨_, rfl⟩
    rw [← hk] at h0 hcon ⊢
    clear hk
    have hne : (k == 0) = false := by simpa using h0
    go_enter Try.func8, Try.ntmps8
    go_wp2_with fail
    refine hcon.mono ?_; rintro e w1 ⟨rfl, hb1⟩
    rw [← hW] at hb1
    clear hW hcon
    go_wp2_with fail
    go_ret3
    exact ⟨_, rfl, .inl ⟨rfl, rfl⟩, (by repeat (first | exact Below.refl _ _ | apply blw_drew | apply blw_alloc | (refine blw_set ?_ (by first | omega | (simp; done) | (simp; omega)) _) | refine below_chain ?_ (by assumption)))⟩
end Go.Proofs.Ytklnpikkkekonaa
