/-
  A sphere's place and number: the program's and the reference's, and the law.
-/
import Derived.Test.YtcpeogbneliceaaSphP
namespace Go.Proofs.Ytcpeogbneliceaa
open Go.RowKit

def RSphereOf2 (p : Int) (sq xs : List Int) : Int := if chkP p sq [] [xs] = 0 then (if weightL p sq xs = 0 then 5 else 0) else chkP p sq [] [xs]
def RSphereOf0 (p : Int) (sq xs : List Int) : List Int := if RSphereOf2 p sq xs = 0 then placeL p sq xs else []
def RSphereOf1 (p : Int) (sq xs : List Int) : Int := if RSphereOf2 p sq xs = 0 then pairL p (extL p sq) xs xs * invL p (weightL p sq xs) * invL p (weightL p sq xs) % p else 0
theorem placeL_len' {p : Int} {sq xs : List Int} (h : xs.length = sq.length + 2) : (placeL p sq xs).length = sq.length := by
  unfold placeL
  rw [scaleL_len, List.length_take]; omega
theorem placeL_fp {p : Int} {sq xs : List Int} (hp : 1 ≤ p) : Fp p (placeL p sq xs) := scaleL_fp hp
theorem RSphereOf0_len (p : Int) (sq xs : List Int) (_ : sq.length ≤ 1048576) (h : xs.length ≤ 1048576) : (RSphereOf0 p sq xs).length ≤ 1048576 := by
  unfold RSphereOf0 placeL
  split
  · rw [scaleL_len, List.length_take]; omega
  · simp
theorem fp_getD {p : Int} {xs : List Int} (hp : 1 ≤ p) (h : Fp p xs) (n : Nat) : 0 ≤ xs.getD n 0 ∧ xs.getD n 0 < p := by
  rw [List.getD_eq_getElem?_getD]
  cases hx : xs[n]? with
  | none => simp; omega
  | some y => exact h y (List.mem_of_getElem? hx)
theorem iSphereOf_c {p0 : Int} {x0 : Value} {sq0 : List Int} {x1 : Value} {xs1 : List Int} {w : World} (hx0 : Sl w x0 sq0) (hm0 : sq0.length ≤ 1048576) (hx1 : Sl w x1 xs1) (hm1 : xs1.length ≤ 1048576) (hc1 : Cp x1) :
    Calls Try.prog 41 #[.agg #[.int .i64 p0, x0], x1] w fun e w' => ∃ v0, e = .returned (.tuple #[v0, .int .i64 (RSphereOf1 p0 sq0 xs1), .int .i64 (RSphereOf2 p0 sq0 xs1)]) ∧ OwI w' w.heap.size v0 (RSphereOf0 p0 sq0 xs1) ∧ Below w.heap.size w w' := by
  obtain ⟨a0, c0, rfl, _⟩ := id hx0
  obtain ⟨a1, c1, rfl, _⟩ := id hx1
  obtain ⟨W, hW⟩ : ∃ W, W = ((w.alloc (.cells #[.int .i64 p0, .slice a0 sq0.length c0] 28)).alloc (.cells #[.slice a1 xs1.length c1] 22)) := ⟨_, rfl⟩
  have hbW : Below w.heap.size w W := by rw [hW]; exact (by repeat (first | exact Below.refl _ _ | apply blw_drew | apply blw_alloc | (refine blw_set ?_ (by first | omega | (simp; done) | (simp; omega)) _) | refine below_chain ?_ (by assumption)))
  have hx0 := hx0.below hbW
  have hx1 := hx1.below hbW
  have d00 : W.cell? ⟨w.heap.size, 0, none⟩ = some (.int .i64 p0) := by rw [hW]; simp [go_sem]
  have d01 : W.cell? ⟨w.heap.size, 1, none⟩ = some (.slice a0 sq0.length c0) := by rw [hW]; simp [go_sem]
  have gly : Rl W (.slice (some ⟨w.heap.size + 1, 0, none⟩) 1 1) [xs1] := Rl.one hx1 (by rw [hW]; simp [go_sem])
  have hcon := chkpl_c (p := p0) hx0 (Rl.nil _) gly hm0 (by simp) (by simp) (by simp) (by simpa using hm1)
  rw [hW] at hcon
  by_cases h0 : chkP p0 sq0 [] [xs1] = 0
  · rw [h0] at hcon
    obtain ⟨h1, h2, h3, h4⟩ := chkP_pos h0
    have hv := h4 xs1 (by simp)
    have H0 := Lib.hid h0
    clear h0 h3 h4
    obtain ⟨hp, n1, n2, hf⟩ := isSp_iff.1 h1
    have hp1 := hp.lo
    have hp2 := hp.hi
    have le := (isV_iff.1 hv).1
    rw [extL_len] at le
    have LE := Lib.hid le
    have L1 := Lib.hid (placeL_len' (p := p0) le)
    have hm1 : xs1.length ≤ 6 := by omega
    clear le
    have hno : weightL p0 sq0 xs1 = 0 → RSphereOf2 p0 sq0 xs1 = 5 ∧ RSphereOf0 p0 sq0 xs1 = [] ∧ RSphereOf1 p0 sq0 xs1 = 0 := fun h => by
      have e : RSphereOf2 p0 sq0 xs1 = 5 := by unfold RSphereOf2; rw [if_pos H0.out, if_pos h]
      exact ⟨e, by unfold RSphereOf0; rw [e]; rfl, by unfold RSphereOf1; rw [e]; rfl⟩
    have hyes : weightL p0 sq0 xs1 ≠ 0 → RSphereOf2 p0 sq0 xs1 = 0 ∧ RSphereOf0 p0 sq0 xs1 = placeL p0 sq0 xs1 ∧ RSphereOf1 p0 sq0 xs1 = pairL p0 (extL p0 sq0) xs1 xs1 * invL p0 (weightL p0 sq0 xs1) * invL p0 (weightL p0 sq0 xs1) % p0 := fun h => by
      have e : RSphereOf2 p0 sq0 xs1 = 0 := by unfold RSphereOf2; rw [if_pos H0.out, if_neg h]
      exact ⟨e, by unfold RSphereOf0; rw [e]; rfl, by unfold RSphereOf1; rw [e]; rfl⟩
    by_cases hw : weightL p0 sq0 xs1 = 0
    · skip
      obtain ⟨e2, e0, e1⟩ := hno hw
      rw [e0, e1, e2]
      have hb : (weightL p0 sq0 xs1 != 0) = false := by simp [hw]
      have HW := Lib.hid hw
      clear hno hyes e0 e1 e2 hw
      go_enter Try.func41, Try.ntmps41
      go_wp2_with fail
      refine hcon.mono ?_; rintro e w1 ⟨rfl, hb1⟩
      rw [← hW] at hb1
      clear hW hcon
      have d00 := kept hb1 d00; have d01 := kept hb1 d01; have hx0 := hx0.below hb1; have hx1 := hx1.below hb1
      go_wp2_with fail
      refine (finite_c h1 (by omega) hx0 hx1 hv).mono ?_; rintro e w22 ⟨v, rfl, hr1, hr2, hb22⟩
      have d00 := kept hb22 d00; have d01 := kept hb22 d01; have hx0 := hx0.below hb22; have hx1 := hx1.below hb22
      obtain rfl := hr2 HW.out
      simp only [hb]
      go_wp2_with fail
      go_ret3
      exact ⟨_, rfl, .inl ⟨rfl, rfl⟩, (by repeat (first | exact Below.refl _ _ | apply blw_drew | apply blw_alloc | (refine blw_set ?_ (by first | omega | (simp; done) | (simp; omega)) _) | refine below_chain ?_ (by assumption)))⟩
    · skip
      obtain ⟨e2, e0, e1⟩ := hyes hw
      rw [e0, e1, e2, ← sphere_number h1 LE.out hw]
      have hb : (weightL p0 sq0 xs1 != 0) = true := by simpa using hw
      have HW := Lib.hid hw
      clear hno hyes e0 e1 e2 hw
      have hA := fp_getD (p := p0) (by omega) (scaleL_fp (k := invL p0 (weightL p0 sq0 xs1)) (xs := xs1) (by omega)) sq0.length
      change 0 ≤ (finL p0 sq0 xs1).getD sq0.length 0 ∧ (finL p0 sq0 xs1).getD sq0.length 0 < p0 at hA
      have hB := fp_getD (p := p0) (by omega) (pointL_fp (p := p0) (sq := sq0) (v := placeL p0 sq0 xs1) (by omega)) sq0.length
      have lf : sq0.length < (finL p0 sq0 xs1).length := by unfold finL; rw [scaleL_len, LE.out]; omega
      have lp : sq0.length < (pointL p0 sq0 (placeL p0 sq0 xs1)).length := by rw [pointL_len L1.out]; omega
      have HP := Lib.hid (place_fin (p := p0) (sq := sq0) (x := xs1))
      have hv2 : isV p0 sq0 (placeL p0 sq0 xs1) = true := isV_iff.2 ⟨L1.out, placeL_fp (by omega)⟩
      obtain ⟨A, hAe⟩ : ∃ A, A = (finL p0 sq0 xs1).getD sq0.length 0 := ⟨_, rfl⟩
      obtain ⟨B, hBe⟩ : ∃ B, B = (pointL p0 sq0 (placeL p0 sq0 xs1)).getD sq0.length 0 := ⟨_, rfl⟩
      rw [← hAe] at hA
      rw [← hBe] at hB
      rw [← hAe, ← hBe]
      have HA := Lib.hid hAe
      have HB := Lib.hid hBe
      clear hAe hBe
      go_enter Try.func41, Try.ntmps41
      go_wp2_with fail
      refine hcon.mono ?_; rintro e w1 ⟨rfl, hb1⟩
      rw [← hW] at hb1
      clear hW hcon
      have d00 := kept hb1 d00; have d01 := kept hb1 d01; have hx0 := hx0.below hb1; have hx1 := hx1.below hb1
      go_wp2_with fail
      refine (finite_c h1 (by omega) hx0 hx1 hv).mono ?_; rintro e w22 ⟨v, rfl, hr1, hr2, hb22⟩
      have d00 := kept hb22 d00; have d01 := kept hb22 d01; have hx0 := hx0.below hb22; have hx1 := hx1.below hb22
      obtain ⟨g, cap, rfl, ho⟩ := hr1 HW.out
      simp only [hb]
      clear hr1 hr2
      have hcap := ho.caps
      simp only [maxLen] at hcap
      go_wp2_with fail
      refine (dim_c).mono ?_; rintro e w23 ⟨rfl, hb23⟩
      have d00 := kept hb23 d00; have d01 := kept hb23 d01; have hx0 := hx0.below hb23; have hx1 := hx1.below hb23; have ho := ho.below hb23
      have hsl : Sl w23 (.slice (some ⟨g, 0, none⟩) sq0.length cap) (placeL p0 sq0 xs1) := by
        have h := (ho.at.take sq0.length).sl (c := cap)
        rw [← HP.out, L1.out] at h
        exact h
      go_wp2_with fail
      refine (clone_c hsl (by rw [L1.out]; omega) (by rw [L1.out]; omega)).mono ?_; rintro e w24 ⟨c, rfl, hc, hb24⟩
      have d00 := kept hb24 d00; have d01 := kept hb24 d01; have hx0 := hx0.below hb24; have hx1 := hx1.below hb24; have ho := ho.below hb24
      have hcy : w24.cell? ⟨g, sq0.length, none⟩ = some (.int .i64 A) := by
        have h := ho.at sq0.length lf
        rw [Nat.zero_add, ← HA.out] at h
        exact h
      go_wp2_with fail
      refine region_flow [(false, [(0, 0), (1, 1), (3, 0), (4, 0), (5, 0), (6, 1), (7, 1), (8, 0), (10, 0), (2, 5)]), (false, [(9, 5)]), (false, [(11, 0), (12, 1), (13, 0), (14, 0), (15, 4), (16, 0), (17, 0), (18, 0)])] (by kernel_rfl) ?_
      refine norm_K fun K hK => ?_
      change wpList _ _ _ [_, _, _, _, _, _, _, _, _, _] _ _
      have hb25 : Below w24.heap.size w24 w24.drew := (by repeat (first | exact Below.refl _ _ | apply blw_drew | apply blw_alloc | (refine blw_set ?_ (by first | omega | (simp; done) | (simp; omega)) _) | refine below_chain ?_ (by assumption)))
      have d00 := kept hb25 d00; have d01 := kept hb25 d01; have hx0 := hx0.below hb25; have hx1 := hx1.below hb25; have ho := ho.below hb25; have hc := hc.below hb25; have hcy := kept hb25 hcy
      go_wp2_with fail
      refine (spfield_c).mono ?_; rintro e w26 ⟨rfl, hb26⟩
      have d00 := kept hb26 d00; have d01 := kept hb26 d01; have hx0 := hx0.below hb26; have hx1 := hx1.below hb26; have ho := ho.below hb26; have hc := hc.below hb26; have hcy := kept hb26 hcy
      go_wp2_with fail
      have hz0 : Below w24.drew.heap.size w24.drew w26 := (by repeat (first | exact Below.refl _ _ | apply blw_drew | apply blw_alloc | (refine blw_set ?_ (by first | omega | (simp; done) | (simp; omega)) _) | refine below_chain ?_ (by assumption)))
      first | (refine hK _ _ ⟨hz0, ?_⟩; clear hK K) | refine ⟨hz0, ?_⟩
      clear hz0
      refine norm_K fun K hK => ?_
      change wpList _ _ _ [_] _ _
      go_wp2_with fail
      refine (point_c h1 hx0 hc.sl hv2).mono ?_; rintro e w27 ⟨z, rfl, ⟨g2, cap2, rfl, hz⟩, hb27⟩
      have d00 := kept hb27 d00; have d01 := kept hb27 d01; have hx0 := hx0.below hb27; have hx1 := hx1.below hb27; have ho := ho.below hb27; have hc := hc.below hb27; have hcy := kept hb27 hcy
      go_wp2_with fail
      have hz1 : Below w24.drew.heap.size w24.drew w27 := (by repeat (first | exact Below.refl _ _ | apply blw_drew | apply blw_alloc | (refine blw_set ?_ (by first | omega | (simp; done) | (simp; omega)) _) | refine below_chain ?_ (by assumption)))
      first | (refine hK _ _ ⟨hz1, ?_⟩; clear hK K) | refine ⟨hz1, ?_⟩
      clear hz1
      refine norm_K fun K hK => ?_
      change wpList _ _ _ [_, _, _, _, _, _, _, _] _ _
      have hcz := hz.at sq0.length lp
      rw [Nat.zero_add, ← HB.out] at hcz
      go_wp2_with fail
      refine (num_c (by omega) (by omega)).mono ?_; rintro e w28 ⟨rfl, rfl⟩
      go_wp2_with fail
      first | (refine hK _ _ ⟨rfl, ?_⟩; clear hK K) | refine ⟨rfl, ?_⟩
      go_wp2_with fail
      go_ret3
      exact ⟨_, rfl, hc.ow (below_le (by repeat (first | exact Below.refl _ _ | apply blw_drew | apply blw_alloc | (refine blw_set ?_ (by first | omega | (simp; done) | (simp; omega)) _) | refine below_chain ?_ (by assumption)))), (by repeat (first | exact Below.refl _ _ | apply blw_drew | apply blw_alloc | (refine blw_set ?_ (by first | omega | (simp; done) | (simp; omega)) _) | refine below_chain ?_ (by assumption)))⟩
  · have e2 : RSphereOf2 p0 sq0 xs1 = chkP p0 sq0 [] [xs1] := by unfold RSphereOf2; rw [if_neg h0]
    rw [show RSphereOf0 p0 sq0 xs1 = [] by unfold RSphereOf0; rw [e2, if_neg h0], show RSphereOf1 p0 sq0 xs1 = 0 by unfold RSphereOf1; rw [e2, if_neg h0], e2]
    clear e2
    obtain ⟨k, hk⟩ : ∃ k, k = chkP p0 sq0 [] [xs1] := ⟨_, rfl⟩
    rw [← hk] at h0 hcon ⊢
    clear hk
    have hne : (k == 0) = false := by simpa using h0
    go_enter Try.func41, Try.ntmps41
    go_wp2_with fail
    refine hcon.mono ?_; rintro e w1 ⟨rfl, hb1⟩
    rw [← hW] at hb1
    clear hW hcon
    go_wp2_with fail
    go_ret3
    exact ⟨_, rfl, .inl ⟨rfl, rfl⟩, (by repeat (first | exact Below.refl _ _ | apply blw_drew | apply blw_alloc | (refine blw_set ?_ (by first | omega | (simp; done) | (simp; omega)) _) | refine below_chain ?_ (by assumption)))⟩
theorem sSphereOf_c {p0 : Int} {x0 : Value} {sq0 : List Int} {x1 : Value} {xs1 : List Int} {w : World} (hx0 : Sl w x0 sq0) (hm0 : sq0.length ≤ 1048576) (hx1 : Sl w x1 xs1) (hm1 : xs1.length ≤ 1048576) (hc1 : Cp x1) :
    Calls Try.prog 40 #[.agg #[.int .i64 p0, x0], x1] w fun e w' => ∃ v0, e = .returned (.tuple #[v0, .int .i64 (RSphereOf1 p0 sq0 xs1), .int .i64 (RSphereOf2 p0 sq0 xs1)]) ∧ OwI w' w.heap.size v0 (RSphereOf0 p0 sq0 xs1) ∧ Below w.heap.size w w' := by
  obtain ⟨a0, c0, rfl, _⟩ := id hx0
  obtain ⟨a1, c1, rfl, _⟩ := id hx1
  obtain ⟨W, hW⟩ : ∃ W, W = (w.alloc (.cells #[.int .i64 p0, .slice a0 sq0.length c0] 28)) := ⟨_, rfl⟩
  have hbW : Below w.heap.size w W := by rw [hW]; exact (by repeat (first | exact Below.refl _ _ | apply blw_drew | apply blw_alloc | (refine blw_set ?_ (by first | omega | (simp; done) | (simp; omega)) _) | refine below_chain ?_ (by assumption)))
  have hx0 := hx0.below hbW
  have hx1 := hx1.below hbW
  have d00 : W.cell? ⟨w.heap.size, 0, none⟩ = some (.int .i64 p0) := by rw [hW]; simp [go_sem]
  have d01 : W.cell? ⟨w.heap.size, 1, none⟩ = some (.slice a0 sq0.length c0) := by rw [hW]; simp [go_sem]
  have hcon := smore_c (p0 := p0) hx0 hx1 (Rl.nil _) hm0 hm1 (by simp) (by simp)
  rw [hW] at hcon
  by_cases h0 : chkP p0 sq0 [] [xs1] = 0
  · rw [h0] at hcon
    obtain ⟨h1, h2, h3, h4⟩ := chkP_pos h0
    have hv := h4 xs1 (by simp)
    have H0 := Lib.hid h0
    clear h0 h3 h4
    obtain ⟨hp, n1, n2, hf⟩ := isSp_iff.1 h1
    have hp1 := hp.lo
    have hp2 := hp.hi
    have le := (isV_iff.1 hv).1
    rw [extL_len] at le
    have LE := Lib.hid le
    have L1 := Lib.hid (placeL_len' (p := p0) le)
    have hm1 : xs1.length ≤ 6 := by omega
    clear le
    have hno : weightL p0 sq0 xs1 = 0 → RSphereOf2 p0 sq0 xs1 = 5 ∧ RSphereOf0 p0 sq0 xs1 = [] ∧ RSphereOf1 p0 sq0 xs1 = 0 := fun h => by
      have e : RSphereOf2 p0 sq0 xs1 = 5 := by unfold RSphereOf2; rw [if_pos H0.out, if_pos h]
      exact ⟨e, by unfold RSphereOf0; rw [e]; rfl, by unfold RSphereOf1; rw [e]; rfl⟩
    have hyes : weightL p0 sq0 xs1 ≠ 0 → RSphereOf2 p0 sq0 xs1 = 0 ∧ RSphereOf0 p0 sq0 xs1 = placeL p0 sq0 xs1 ∧ RSphereOf1 p0 sq0 xs1 = pairL p0 (extL p0 sq0) xs1 xs1 * invL p0 (weightL p0 sq0 xs1) * invL p0 (weightL p0 sq0 xs1) % p0 := fun h => by
      have e : RSphereOf2 p0 sq0 xs1 = 0 := by unfold RSphereOf2; rw [if_pos H0.out, if_neg h]
      exact ⟨e, by unfold RSphereOf0; rw [e]; rfl, by unfold RSphereOf1; rw [e]; rfl⟩
    by_cases hw : weightL p0 sq0 xs1 = 0
    · skip
      obtain ⟨e2, e0, e1⟩ := hno hw
      rw [e0, e1, e2]
      have hb : (weightL p0 sq0 xs1 != 0) = false := by simp [hw]
      have HW := Lib.hid hw
      clear hno hyes e0 e1 e2 hw
      go_enter Try.func40, Try.ntmps40
      go_wp2_with fail
      refine hcon.mono ?_; rintro e w1 ⟨rfl, hb1⟩
      rw [← hW] at hb1
      clear hW hcon
      have d00 := kept hb1 d00; have d01 := kept hb1 d01; have hx0 := hx0.below hb1; have hx1 := hx1.below hb1
      go_wp2_with fail
      refine (swt_c h1 (by omega) hx0 hx1 hv).mono ?_; rintro e w22 ⟨rfl, hb22⟩
      have d00 := kept hb22 d00; have d01 := kept hb22 d01; have hx0 := hx0.below hb22; have hx1 := hx1.below hb22
      simp only [HW.out]
      go_wp2_with fail
      go_ret3
      exact ⟨_, rfl, .inl ⟨rfl, rfl⟩, (by repeat (first | exact Below.refl _ _ | apply blw_drew | apply blw_alloc | (refine blw_set ?_ (by first | omega | (simp; done) | (simp; omega)) _) | refine below_chain ?_ (by assumption)))⟩
    · skip
      obtain ⟨e2, e0, e1⟩ := hyes hw
      rw [e0, e1, e2]
      have hwd : (weightL p0 sq0 xs1 == 0) = false := by simpa using hw
      have HW := Lib.hid hw
      clear hno hyes e0 e1 e2
      have hwt := weightL_fp (p := p0) (sq := sq0) (x := xs1) (by omega)
      have hwt1 : 1 ≤ weightL p0 sq0 xs1 := by omega
      clear hw
      have hq := pairL_fp (p := p0) (sq := extL p0 sq0) (v := xs1) (w := xs1) (by omega)
      have hi := invL_fp (p := p0) (a := weightL p0 sq0 xs1) (by omega)
      have m1 := mulb (A := 13) (B := 13) (k := pairL p0 (extL p0 sq0) xs1 xs1) (y := invL p0 (weightL p0 sq0 xs1)) (by omega) (by omega) (by omega) (by omega)
      have m2 := mulb (A := 169) (B := 13) (k := pairL p0 (extL p0 sq0) xs1 xs1 * invL p0 (weightL p0 sq0 xs1)) (y := invL p0 (weightL p0 sq0 xs1)) (by omega) (by omega) (by omega) (by omega)
      go_enter Try.func40, Try.ntmps40
      go_wp2_with fail
      refine hcon.mono ?_; rintro e w1 ⟨rfl, hb1⟩
      rw [← hW] at hb1
      clear hW hcon
      have d00 := kept hb1 d00; have d01 := kept hb1 d01; have hx0 := hx0.below hb1; have hx1 := hx1.below hb1
      go_wp2_with fail
      refine (swt_c h1 (by omega) hx0 hx1 hv).mono ?_; rintro e w22 ⟨rfl, hb22⟩
      have d00 := kept hb22 d00; have d01 := kept hb22 d01; have hx0 := hx0.below hb22; have hx1 := hx1.below hb22
      go_wp2_with fail
      refine region_flow [(false, [(0, 0), (1, 1), (2, 1), (3, 0), (4, 5)]), (false, [(5, 4), (6, 0)])] (by kernel_rfl) ?_
      refine norm_K fun K hK => ?_
      change wpList _ _ _ [_, _, _, _, _] _ _
      have hb23 : Below w22.heap.size w22 w22.drew := (by repeat (first | exact Below.refl _ _ | apply blw_drew | apply blw_alloc | (refine blw_set ?_ (by first | omega | (simp; done) | (simp; omega)) _) | refine below_chain ?_ (by assumption)))
      have d00 := kept hb23 d00; have d01 := kept hb23 d01; have hx0 := hx0.below hb23; have hx1 := hx1.below hb23
      go_wp2_with fail
      refine (swt_c h1 (by omega) hx0 hx1 hv).mono ?_; rintro e w24 ⟨rfl, hb24⟩
      have d00 := kept hb24 d00; have d01 := kept hb24 d01; have hx0 := hx0.below hb24; have hx1 := hx1.below hb24
      go_wp2_with fail
      have hz0 : Below w22.drew.heap.size w22.drew w24 := (by repeat (first | exact Below.refl _ _ | apply blw_drew | apply blw_alloc | (refine blw_set ?_ (by first | omega | (simp; done) | (simp; omega)) _) | refine below_chain ?_ (by assumption)))
      first | (refine hK _ _ ⟨hz0, ?_⟩; clear hK K) | refine ⟨hz0, ?_⟩
      clear hz0
      refine norm_K fun K hK => ?_
      change wpList _ _ _ [_, _] _ _
      go_wp2_with fail
      refine (sinv_c hp hwt1 hwt.2).mono ?_; rintro e w25 ⟨rfl, rfl⟩
      go_wp2_with fail
      first | (refine hK _ _ ⟨rfl, ?_⟩; clear hK K) | refine ⟨rfl, ?_⟩
      go_wp2_with fail
      refine (sext_c hx0 h1).mono ?_; rintro e w26 ⟨y, rfl, ⟨g, cap, rfl, hy⟩, hb26⟩
      have d00 := kept hb26 d00; have d01 := kept hb26 d01; have hx0 := hx0.below hb26; have hx1 := hx1.below hb26
      have hb27 : Below w26.heap.size w26 (w26.alloc (.cells #[.int .i64 p0, .slice (some ⟨g, 0, none⟩) (extL p0 sq0).length cap] 28)) := (by repeat (first | exact Below.refl _ _ | apply blw_drew | apply blw_alloc | (refine blw_set ?_ (by first | omega | (simp; done) | (simp; omega)) _) | refine below_chain ?_ (by assumption)))
      have d00 := kept hb27 d00; have d01 := kept hb27 d01; have hx0 := hx0.below hb27; have hx1 := hx1.below hb27; have hy := hy.below hb27
      have e0 : (w26.alloc (.cells #[.int .i64 p0, .slice (some ⟨g, 0, none⟩) (extL p0 sq0).length cap] 28)).cell? ⟨w26.heap.size, 0, none⟩ = some (.int .i64 p0) := by simp [go_sem]
      have e1 : (w26.alloc (.cells #[.int .i64 p0, .slice (some ⟨g, 0, none⟩) (extL p0 sq0).length cap] 28)).cell? ⟨w26.heap.size, 1, none⟩ = some (.slice (some ⟨g, 0, none⟩) (extL p0 sq0).length cap) := by simp [go_sem]
      go_wp2_with fail
      refine region_flow [(false, [(0, 1), (1, 0), (3, 0), (4, 1), (5, 1), (6, 0), (7, 0), (9, 0), (11, 0), (2, 5)]), (false, [(8, 5)]), (false, [(10, 0), (12, 0), (13, 4), (14, 0), (15, 0), (16, 0)])] (by kernel_rfl) ?_
      refine norm_K fun K hK => ?_
      change wpList _ _ _ [_, _, _, _, _, _, _, _, _, _] _ _
      have hb28 : Below (w26.alloc (.cells #[.int .i64 p0, .slice (some ⟨g, 0, none⟩) (extL p0 sq0).length cap] 28)).heap.size (w26.alloc (.cells #[.int .i64 p0, .slice (some ⟨g, 0, none⟩) (extL p0 sq0).length cap] 28)) (w26.alloc (.cells #[.int .i64 p0, .slice (some ⟨g, 0, none⟩) (extL p0 sq0).length cap] 28)).drew := (by repeat (first | exact Below.refl _ _ | apply blw_drew | apply blw_alloc | (refine blw_set ?_ (by first | omega | (simp; done) | (simp; omega)) _) | refine below_chain ?_ (by assumption)))
      have d00 := kept hb28 d00; have d01 := kept hb28 d01; have hx0 := hx0.below hb28; have hx1 := hx1.below hb28; have hy := hy.below hb28; have e0 := kept hb28 e0; have e1 := kept hb28 e1
      go_wp2_with fail
      refine (splace_c h1 (by omega) hx0 hx1 hc1 hv HW.out).mono ?_; rintro e w29 ⟨u, rfl, hu, hb29⟩
      have d00 := kept hb29 d00; have d01 := kept hb29 d01; have hx0 := hx0.below hb29; have hx1 := hx1.below hb29; have hy := hy.below hb29; have e0 := kept hb29 e0; have e1 := kept hb29 e1
      go_wp2_with fail
      have hz0 : Below (w26.alloc (.cells #[.int .i64 p0, .slice (some ⟨g, 0, none⟩) (extL p0 sq0).length cap] 28)).drew.heap.size (w26.alloc (.cells #[.int .i64 p0, .slice (some ⟨g, 0, none⟩) (extL p0 sq0).length cap] 28)).drew w29 := (by repeat (first | exact Below.refl _ _ | apply blw_drew | apply blw_alloc | (refine blw_set ?_ (by first | omega | (simp; done) | (simp; omega)) _) | refine below_chain ?_ (by assumption)))
      first | (refine hK _ _ ⟨hz0, ?_⟩; clear hK K) | refine ⟨hz0, ?_⟩
      clear hz0
      refine norm_K fun K hK => ?_
      change wpList _ _ _ [_] _ _
      go_wp2_with fail
      refine (spair_c (by omega) hp2 hy.sl hx1 hx1 (extL_fp hp1 hf) (isV_iff.1 hv).2 (isV_iff.1 hv).2 (isV_iff.1 hv).1.symm rfl (by rw [extL_len]; omega) (by omega)).mono ?_; rintro e w30 ⟨rfl, hb30⟩
      have d00 := kept hb30 d00; have d01 := kept hb30 d01; have hx0 := hx0.below hb30; have hx1 := hx1.below hb30; have hy := hy.below hb30; have e0 := kept hb30 e0; have e1 := kept hb30 e1; have hu := hu.below hb30
      go_wp2_with fail
      have hz1 : Below (w26.alloc (.cells #[.int .i64 p0, .slice (some ⟨g, 0, none⟩) (extL p0 sq0).length cap] 28)).drew.heap.size (w26.alloc (.cells #[.int .i64 p0, .slice (some ⟨g, 0, none⟩) (extL p0 sq0).length cap] 28)).drew w30 := (by repeat (first | exact Below.refl _ _ | apply blw_drew | apply blw_alloc | (refine blw_set ?_ (by first | omega | (simp; done) | (simp; omega)) _) | refine below_chain ?_ (by assumption)))
      first | (refine hK _ _ ⟨hz1, ?_⟩; clear hK K) | refine ⟨hz1, ?_⟩
      clear hz1
      refine norm_K fun K hK => ?_
      change wpList _ _ _ [_, _, _, _, _, _] _ _
      go_wp2_with fail
      refine (smod_c (by omega) (by omega)).mono ?_; rintro e w31 ⟨rfl, rfl⟩
      go_wp2_with fail
      first | (refine hK _ _ ⟨rfl, ?_⟩; clear hK K) | refine ⟨rfl, ?_⟩
      go_wp2_with fail
      go_ret3
      exact ⟨_, rfl, hu.ow (below_le (by repeat (first | exact Below.refl _ _ | apply blw_drew | apply blw_alloc | (refine blw_set ?_ (by first | omega | (simp; done) | (simp; omega)) _) | refine below_chain ?_ (by assumption)))), (by repeat (first | exact Below.refl _ _ | apply blw_drew | apply blw_alloc | (refine blw_set ?_ (by first | omega | (simp; done) | (simp; omega)) _) | refine below_chain ?_ (by assumption)))⟩
  · have e2 : RSphereOf2 p0 sq0 xs1 = chkP p0 sq0 [] [xs1] := by unfold RSphereOf2; rw [if_neg h0]
    rw [show RSphereOf0 p0 sq0 xs1 = [] by unfold RSphereOf0; rw [e2, if_neg h0], show RSphereOf1 p0 sq0 xs1 = 0 by unfold RSphereOf1; rw [e2, if_neg h0], e2]
    clear e2
    obtain ⟨k, hk⟩ : ∃ k, k = chkP p0 sq0 [] [xs1] := ⟨_, rfl⟩
    rw [← hk] at h0 hcon ⊢
    clear hk
    have hne : (k == 0) = false := by simpa using h0
    go_enter Try.func40, Try.ntmps40
    go_wp2_with fail
    refine hcon.mono ?_; rintro e w1 ⟨rfl, hb1⟩
    rw [← hW] at hb1
    clear hW hcon
    go_wp2_with fail
    go_ret3
    exact ⟨_, rfl, .inl ⟨rfl, rfl⟩, (by repeat (first | exact Below.refl _ _ | apply blw_drew | apply blw_alloc | (refine blw_set ?_ (by first | omega | (simp; done) | (simp; omega)) _) | refine below_chain ?_ (by assumption)))⟩
theorem law_SphereOf {p0 : Int} {x0 : Value} {sq0 : List Int} {x1 : Value} {xs1 : List Int} {w : World} (hx0 : Sl w x0 sq0) (hm0 : sq0.length ≤ 9223372036854775807) (hx1 : Sl w x1 xs1) (hm1 : xs1.length ≤ 9223372036854775807) :
    Calls Try.prog 11 #[.agg #[.int .i64 p0, x0], x1] w fun e w' => e = .returned (.bool true) ∧ Below w.heap.size w w' := by
  obtain ⟨a0, c0, rfl, _⟩ := id hx0
  obtain ⟨a1, c1, rfl, _⟩ := id hx1
  by_cases hl1 : xs1.length ≤ 1048576
  case neg =>
    go_enter Try.func11, Try.ntmps11
    go_wp2_with fail
    go_ret
    exact ⟨rfl, (by repeat (first | exact Below.refl _ _ | apply blw_drew | apply blw_alloc | (refine blw_set ?_ (by first | omega | (simp; done) | (simp; omega)) _) | refine below_chain ?_ (by assumption)))⟩
  obtain ⟨z0, hz0⟩ : ∃ z, z = szI 1048576 sq0.length := ⟨_, rfl⟩
  have hzb0 := szI_bd (left := 1048576) (n := sq0.length) (by decide) (by decide)
  rw [← hz0] at hzb0
  by_cases hs0 : z0 < 0
  case pos =>
    go_enter Try.func11, Try.ntmps11
    go_wp2_with (go_at_call 15; refine (szsp_c (by decide) (by decide) (by omega)).mono ?_; rintro e w1 ⟨rfl, hb1⟩; simp only [← hz0])
    go_ret
    exact ⟨rfl, (by repeat (first | exact Below.refl _ _ | apply blw_drew | apply blw_alloc | (refine blw_set ?_ (by first | omega | (simp; done) | (simp; omega)) _) | refine below_chain ?_ (by assumption)))⟩
  have hl0 : sq0.length ≤ 1048576 := by rw [hz0] at hs0; have := cnt_bd hs0; omega
  have hI := fun (W : World) (x0 : Value) (hx0 : Sl W x0 sq0) (x1 : Value) (hx1 : Sl W x1 xs1) (hc1 : Cp x1) => iSphereOf_c (w := W) (p0 := p0) hx0 hl0 hx1 hl1 hc1
  have hS := fun (W : World) (x0 : Value) (hx0 : Sl W x0 sq0) (x1 : Value) (hx1 : Sl W x1 xs1) (hc1 : Cp x1) => sSphereOf_c (w := W) (p0 := p0) hx0 hl0 hx1 hl1 hc1
  have yl0 := RSphereOf0_len p0 sq0 xs1 hl0 hl1
  obtain ⟨y0, hy0⟩ : ∃ y, y = RSphereOf0 p0 sq0 xs1 := ⟨_, rfl⟩
  obtain ⟨y1, hy1⟩ : ∃ y, y = RSphereOf1 p0 sq0 xs1 := ⟨_, rfl⟩
  obtain ⟨y2, hy2⟩ : ∃ y, y = RSphereOf2 p0 sq0 xs1 := ⟨_, rfl⟩
  simp only [← hy0, ← hy1, ← hy2] at hI hS yl0
  clear hy0 hy1 hy2
  go_enter Try.func11, Try.ntmps11
  have hb0 : Below w.heap.size w (w.alloc (.cells #[.int .i64 p0, .slice a0 sq0.length c0] 24)) := (by repeat (first | exact Below.refl _ _ | apply blw_drew | apply blw_alloc | (refine blw_set ?_ (by first | omega | (simp; done) | (simp; omega)) _) | refine below_chain ?_ (by assumption)))
  have hx0 := hx0.below hb0; have hx1 := hx1.below hb0
  have d00 : (w.alloc (.cells #[.int .i64 p0, .slice a0 sq0.length c0] 24)).cell? ⟨w.heap.size, 0, none⟩ = some (.int .i64 p0) := by simp [go_sem]
  have d01 : (w.alloc (.cells #[.int .i64 p0, .slice a0 sq0.length c0] 24)).cell? ⟨w.heap.size, 1, none⟩ = some (.slice a0 sq0.length c0) := by simp [go_sem]
  go_wp2_with fail
  refine (szsp_c (by decide) (by decide) (by omega)).mono ?_; rintro e w1 ⟨rfl, hb1⟩
  simp only [← hz0]
  have hx0 := hx0.below hb1; have hx1 := hx1.below hb1; have d00 := kept hb1 d00; have d01 := kept hb1 d01
  go_wp2_with fail
  refine (tosp_c hx0 hl0).mono ?_; rintro e w2 ⟨t0, rfl, ht0, hb2⟩
  have hx0 := hx0.below hb2; have hx1 := hx1.below hb2; have d00 := kept hb2 d00; have d01 := kept hb2 d01
  go_wp2_with fail
  refine (to_c hx1 hl1).mono ?_; rintro e w3 ⟨t1, rfl, ht1, hb3⟩
  have hx0 := hx0.below hb3; have hx1 := hx1.below hb3; have d00 := kept hb3 d00; have d01 := kept hb3 d01; have ht0 := ht0.below hb3
  go_wp2_with fail
  refine (hS _ _ ht0.sl _ ht1.sl ht1.cp).mono ?_; rintro e w4 ⟨s0, rfl, hs0', hb4⟩
  have hx0 := hx0.below hb4; have hx1 := hx1.below hb4; have d00 := kept hb4 d00; have d01 := kept hb4 d01
  have hx0_ := hx0
  have hx1_ := hx1
  have d00_ := d00
  have d01_ := d01
  have hs0'_ := hs0'
  go_wp2_with fail
  refine (tosp_c hx0 hl0).mono ?_; rintro e w5 ⟨t0, rfl, ⟨g0, k0, rfl, ht0⟩, hb5⟩
  have hx0 := hx0.below hb5; have hx1 := hx1.below hb5; have d00 := kept hb5 d00; have d01 := kept hb5 d01; have hs0' := hs0'.below hb5
  have le5 := hb5.size; have ub0 : g0 < w5.heap.size := ht0.lt.2; have lb0 : w4.heap.size ≤ g0 := ht0.lt.1
  have hb6 : Below w5.heap.size w5 (w5.alloc (.cells #[.int .i64 p0, .slice (some ⟨g0, 0, none⟩) sq0.length k0] 28)) := (by repeat (first | exact Below.refl _ _ | apply blw_drew | apply blw_alloc | (refine blw_set ?_ (by first | omega | (simp; done) | (simp; omega)) _) | refine below_chain ?_ (by assumption)))
  have hx0 := hx0.below hb6; have hx1 := hx1.below hb6; have d00 := kept hb6 d00; have d01 := kept hb6 d01; have hs0' := hs0'.below hb6; have ht0 := ht0.below hb6
  have e00 : (w5.alloc (.cells #[.int .i64 p0, .slice (some ⟨g0, 0, none⟩) sq0.length k0] 28)).cell? ⟨w5.heap.size, 0, none⟩ = some (.int .i64 p0) := by simp [go_sem]
  have e01 : (w5.alloc (.cells #[.int .i64 p0, .slice (some ⟨g0, 0, none⟩) sq0.length k0] 28)).cell? ⟨w5.heap.size, 1, none⟩ = some (.slice (some ⟨g0, 0, none⟩) sq0.length k0) := by simp [go_sem]
  have le6 : (w5.alloc (.cells #[.int .i64 p0, .slice (some ⟨g0, 0, none⟩) sq0.length k0] 28)).heap.size = w5.heap.size + 1 := by simp
  go_wp2_with fail
  refine (to_c hx1 hl1).mono ?_; rintro e w7 ⟨t1, rfl, ⟨g1, k1, rfl, ht1⟩, hb7⟩
  have hx0 := hx0.below hb7; have hx1 := hx1.below hb7; have d00 := kept hb7 d00; have d01 := kept hb7 d01; have hs0' := hs0'.below hb7; have ht0 := ht0.below hb7; have e00 := kept hb7 e00; have e01 := kept hb7 e01
  have le7 := hb7.size; have ub1 : g1 < w7.heap.size := ht1.lt.2; have lb1 : (w5.alloc (.cells #[.int .i64 p0, .slice (some ⟨g0, 0, none⟩) sq0.length k0] 28)).heap.size ≤ g1 := ht1.lt.1
  go_wp2_with fail
  refine (hI _ _ ht0.sl _ ht1.sl ht1.cp).mono ?_; rintro e w8 ⟨g100', rfl, hg0, hb8⟩
  have hx0 := hx0.below hb8; have hx1 := hx1.below hb8; have d00 := kept hb8 d00; have d01 := kept hb8 d01; have hs0' := hs0'.below hb8; have ht0 := ht0.below hb8; have e00 := kept hb8 e00; have e01 := kept hb8 e01; have ht1 := ht1.below hb8
  have bg0 := hg0.blk
  have le8 := hb8.size
  go_wp2_with fail
  refine (eqs_c hg0.sl hs0'.sl yl0).mono ?_; rintro e w9 ⟨rfl, hb9⟩
  have hx0 := hx0.below hb9; have hx1 := hx1.below hb9; have d00 := kept hb9 d00; have d01 := kept hb9 d01; have hs0' := hs0'.below hb9; have ht0 := ht0.below hb9; have e00 := kept hb9 e00; have e01 := kept hb9 e01; have ht1 := ht1.below hb9; have hg0 := hg0.below hb9
  go_wp2_with fail
  refine region_flow [(false, [(0, 1), (1, 1), (2, 5)]), (false, [(3, 4), (4, 0)])] (by kernel_rfl) ?_
  refine norm_K fun K hK => ?_
  change wpList _ _ _ [_, _, _] _ _
  have hb10 : Below w9.heap.size w9 w9.drew := (by repeat (first | exact Below.refl _ _ | apply blw_drew | apply blw_alloc | (refine blw_set ?_ (by first | omega | (simp; done) | (simp; omega)) _) | refine below_chain ?_ (by assumption)))
  have hx0 := hx0.below hb10; have hx1 := hx1.below hb10; have d00 := kept hb10 d00; have d01 := kept hb10 d01; have hs0' := hs0'.below hb10; have ht0 := ht0.below hb10; have e00 := kept hb10 e00; have e01 := kept hb10 e01; have ht1 := ht1.below hb10; have hg0 := hg0.below hb10
  go_wp2_with fail
  refine (tosp_c hx0 hl0).mono ?_; rintro e w11 ⟨u0, rfl, hu0, hb11⟩
  have hx0 := hx0.below hb11; have hx1 := hx1.below hb11; have d00 := kept hb11 d00; have d01 := kept hb11 d01; have hs0' := hs0'.below hb11; have ht0 := ht0.below hb11; have e00 := kept hb11 e00; have e01 := kept hb11 e01; have ht1 := ht1.below hb11; have hg0 := hg0.below hb11
  go_wp2_with fail
  first | (refine hK _ _ ⟨hb11, ?_⟩; clear hK K) | refine ⟨hb11, ?_⟩
  refine norm_K fun K hK => ?_
  change wpList _ _ _ [_, _] _ _
  go_wp2_with fail
  refine (eqsps_c ht0.sl hu0.sl hl0).mono ?_; rintro e w12 ⟨rfl, hb12⟩
  have hx0 := hx0.below hb12; have hx1 := hx1.below hb12; have d00 := kept hb12 d00; have d01 := kept hb12 d01; have hs0' := hs0'.below hb12; have ht0 := ht0.below hb12; have e00 := kept hb12 e00; have e01 := kept hb12 e01; have ht1 := ht1.below hb12; have hg0 := hg0.below hb12
  go_wp2_with fail
  first | (refine hK _ _ ⟨rfl, ?_⟩; clear hK K) | refine ⟨rfl, ?_⟩
  go_wp2_with fail
  refine (to_c hx1 hl1).mono ?_; rintro e w13 ⟨u1, rfl, hu1, hb13⟩
  have hx0 := hx0.below hb13; have hx1 := hx1.below hb13; have d00 := kept hb13 d00; have d01 := kept hb13 d01; have hs0' := hs0'.below hb13; have ht0 := ht0.below hb13; have e00 := kept hb13 e00; have e01 := kept hb13 e01; have ht1 := ht1.below hb13; have hg0 := hg0.below hb13
  go_wp2_with fail
  refine (eqs_c ht1.sl hu1.sl hl1).mono ?_; rintro e w14 ⟨rfl, hb14⟩
  have hx0 := hx0.below hb14; have hx1 := hx1.below hb14; have d00 := kept hb14 d00; have d01 := kept hb14 d01; have hs0' := hs0'.below hb14; have ht0 := ht0.below hb14; have e00 := kept hb14 e00; have e01 := kept hb14 e01; have ht1 := ht1.below hb14; have hg0 := hg0.below hb14
  go_wp2_with fail
  have hW0 : Below w4.heap.size w4 w14 := (by repeat (first | exact Below.refl _ _ | apply blw_drew | apply blw_alloc | (refine blw_set ?_ (by first | omega | (simp; done) | (simp; omega)) _) | refine below_chain ?_ (by assumption)))
  refine (marksp_c (ht0.fr.ow (Nat.le_refl _)) hl0 (by omega) (by omega)).mono ?_; rintro e w15 ⟨rfl, hm0_, hgr0⟩
  have hb15 := blw_mark hW0 hgr0 (fun j hj => by have e : g0 = j := Option.some.inj hj; omega); clear hW0
  have hx0 := hx0_.below hb15
  have hx1 := hx1_.below hb15
  have d00 := kept hb15 d00_
  have d01 := kept hb15 d01_
  have hs0' := hs0'_.below hb15
  have e00 := farc hgr0 e00 (fun hj => absurd (Option.some.inj (show some _ = some g0 from hj)) (by omega))
  have e01 := farc hgr0 e01 (fun hj => absurd (Option.some.inj (show some _ = some g0 from hj)) (by omega))
  have ht1 := ht1.grown hgr0 (fun hj => absurd (Option.some.inj (show some _ = some g0 from hj)) (by omega))
  have hg0 := hg0.far hgr0 (fun j hj => by have e : g0 = j := Option.some.inj hj; omega)
  go_wp2_with fail
  have hW1 : Below w4.heap.size w4 w15 := (by repeat (first | exact Below.refl _ _ | apply blw_drew | apply blw_alloc | (refine blw_set ?_ (by first | omega | (simp; done) | (simp; omega)) _) | refine below_chain ?_ (by assumption)))
  refine (mark_c (ht1.fr.ow (Nat.le_refl _)) hl1 (by omega) (by omega)).mono ?_; rintro e w16 ⟨rfl, hm1_, hgr1⟩
  have hb16 := blw_mark hW1 hgr1 (fun j hj => by have e : g1 = j := Option.some.inj hj; omega); clear hW1
  have hx0 := hx0_.below hb16
  have hx1 := hx1_.below hb16
  have d00 := kept hb16 d00_
  have d01 := kept hb16 d01_
  have hs0' := hs0'_.below hb16
  have e00 := farc hgr1 e00 (fun hj => absurd (Option.some.inj (show some _ = some g1 from hj)) (by omega))
  have e01 := farc hgr1 e01 (fun hj => absurd (Option.some.inj (show some _ = some g1 from hj)) (by omega))
  have hg0 := hg0.far hgr1 (fun j hj => by have e : g1 = j := Option.some.inj hj; omega)
  go_wp2_with fail
  refine (eqs_c hg0.sl hs0'.sl yl0).mono ?_; rintro e w17 ⟨rfl, hb17⟩
  have hx0 := hx0.below hb17; have hx1 := hx1.below hb17; have d00 := kept hb17 d00; have d01 := kept hb17 d01; have hs0' := hs0'.below hb17; have e00 := kept hb17 e00; have e01 := kept hb17 e01; have hg0 := hg0.below hb17
  go_wp2_with fail
  have hWg : Below w4.heap.size w4 w17 := (by repeat (first | exact Below.refl _ _ | apply blw_drew | apply blw_alloc | (refine blw_set ?_ (by first | omega | (simp; done) | (simp; omega)) _) | refine below_chain ?_ (by assumption)))
  have lg : w4.heap.size ≤ w7.heap.size := (below_le (by repeat (first | exact Below.refl _ _ | apply blw_drew | apply blw_alloc | (refine blw_set ?_ (by first | omega | (simp; done) | (simp; omega)) _) | refine below_chain ?_ (by assumption))))
  refine (mark_c hg0 yl0 (by omega) (by omega)).mono ?_; rintro e w18 ⟨rfl, hg0, hgrg⟩
  have hb18 := blw_mark hWg hgrg (fun j hj => by have := bg0 j hj; omega); clear hWg
  have hx0 := hx0_.below hb18
  have hx1 := hx1_.below hb18
  have d00 := kept hb18 d00_
  have d01 := kept hb18 d01_
  have hs0' := hs0'_.below hb18
  go_wp2_with fail
  refine (held_c (n := y0.length) hg0.sl yl0 (by omega) (by omega)).mono ?_; rintro e w19 ⟨rfl, rfl⟩
  go_wp2_with fail
  refine (tosp_c hx0 hl0).mono ?_; rintro e w20 ⟨r0, rfl, hr0, hb20⟩
  have hx0 := hx0.below hb20; have hx1 := hx1.below hb20; have d00 := kept hb20 d00; have d01 := kept hb20 d01; have hs0' := hs0'.below hb20; have hg0 := hg0.below hb20
  go_wp2_with fail
  refine (to_c hx1 hl1).mono ?_; rintro e w21 ⟨r1, rfl, hr1, hb21⟩
  have hx0 := hx0.below hb21; have hx1 := hx1.below hb21; have d00 := kept hb21 d00; have d01 := kept hb21 d01; have hs0' := hs0'.below hb21; have hg0 := hg0.below hb21; have hr0 := hr0.below hb21
  go_wp2_with fail
  refine (hI _ _ hr0.sl _ hr1.sl hr1.cp).mono ?_; rintro e w22 ⟨f100', rfl, hf0, hb22⟩
  have hx0 := hx0.below hb22; have hx1 := hx1.below hb22; have d00 := kept hb22 d00; have d01 := kept hb22 d01; have hs0' := hs0'.below hb22; have hg0 := hg0.below hb22
  go_wp2_with fail
  refine (eqs_c hf0.sl hs0'.sl yl0).mono ?_; rintro e w23 ⟨rfl, hb23⟩
  have hx0 := hx0.below hb23; have hx1 := hx1.below hb23; have d00 := kept hb23 d00; have d01 := kept hb23 d01; have hs0' := hs0'.below hb23; have hg0 := hg0.below hb23; have hf0 := hf0.below hb23
  go_wp2_with fail
  refine (held_c (n := y0.length) hg0.sl yl0 (by omega) (by omega)).mono ?_; rintro e w24 ⟨rfl, rfl⟩
  go_wp2_with fail
  go_ret
  exact ⟨rfl, (by repeat (first | exact Below.refl _ _ | apply blw_drew | apply blw_alloc | (refine blw_set ?_ (by first | omega | (simp; done) | (simp; omega)) _) | refine below_chain ?_ (by assumption)))⟩
end Go.Proofs.Ytcpeogbneliceaa
