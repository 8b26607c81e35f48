/-
  A sphere's vector: the program's and the reference's, and the law.
-/
import Derived.Test.YtcpeogbneliceaaRest
namespace Go.Proofs.Ytcpeogbneliceaa
open Go.RowKit

theorem isL_one' {p n : Int} : isL p [n] = inR n 0 (p - 1) := by simp [isL]
def RSphereVector1 (p : Int) (sq xs : List Int) (n : Int) : Int := if chkP p sq [xs] [] = 0 then (if inR n 0 (p - 1) = true then 0 else 2) else chkP p sq [xs] []
def RSphereVector0 (p : Int) (sq xs : List Int) (n : Int) : List Int := if RSphereVector1 p sq xs n = 0 then sphereL p sq xs n else []
theorem sphereL_len {p n : Int} {sq xs : List Int} (h : xs.length = sq.length) : (sphereL p sq xs n).length = sq.length + 2 := by
  unfold sphereL
  rw [plusL_len (by rw [infL_len, pointL_len h]), pointL_len h]
theorem RSphereVector0_len (p : Int) (sq xs : List Int) (n : Int) (_ : sq.length ≤ 1048576) (_ : xs.length ≤ 1048576) : (RSphereVector0 p sq xs n).length ≤ 1048576 := by
  unfold RSphereVector0
  split
  · rename_i h0
    unfold RSphereVector1 at h0
    by_cases h : chkP p sq [xs] [] = 0
    · obtain ⟨h1, h2, h3, _⟩ := chkP_pos h
      rw [sphereL_len (isV_iff.1 (h3 xs (by simp))).1]; omega
    · rw [if_neg h] at h0; exact absurd h0 h
  · simp
theorem iSphereVector_c {p0 : Int} {x0 : Value} {sq0 : List Int} {x1 : Value} {xs1 : List Int} {n2 : Int} {w : World} (hx0 : Sl w x0 sq0) (hm0 : sq0.length ≤ 1048576) (hx1 : Sl w x1 xs1) (hm1 : xs1.length ≤ 1048576) (lo2 : -9223372036854775808 ≤ n2) (hi2 : n2 ≤ 9223372036854775807) :
    Calls Try.prog 37 #[.agg #[.int .i64 p0, x0], x1, .int .i64 n2] w fun e w' => ∃ v0, e = .returned (.tuple #[v0, .int .i64 (RSphereVector1 p0 sq0 xs1 n2)]) ∧ OwI w' w.heap.size v0 (RSphereVector0 p0 sq0 xs1 n2) ∧ Below w.heap.size w w' := by
  obtain ⟨a0, c0, rfl, _⟩ := id hx0
  obtain ⟨a1, c1, rfl, _⟩ := id hx1
  obtain ⟨W, hW⟩ : ∃ W, W = ((w.alloc (.cells #[.int .i64 p0, .slice a0 sq0.length c0] 28)).alloc (.cells #[.slice a1 xs1.length c1] 22)) := ⟨_, rfl⟩
  have hbW : Below w.heap.size w W := by rw [hW]; exact (by repeat (first | exact Below.refl _ _ | apply blw_drew | apply blw_alloc | (refine blw_set ?_ (by first | omega | (simp; done) | (simp; omega)) _) | refine below_chain ?_ (by assumption)))
  have hx0 := hx0.below hbW
  have hx1 := hx1.below hbW
  have d00 : W.cell? ⟨w.heap.size, 0, none⟩ = some (.int .i64 p0) := by rw [hW]; simp [go_sem]
  have d01 : W.cell? ⟨w.heap.size, 1, none⟩ = some (.slice a0 sq0.length c0) := by rw [hW]; simp [go_sem]
  have glx : Rl W (.slice (some ⟨w.heap.size + 1, 0, none⟩) 1 1) [xs1] := Rl.one hx1 (by rw [hW]; simp [go_sem])
  have hcon := chkpl_c (p := p0) hx0 glx (Rl.nil _) hm0 (by simp) (by simpa using hm1) (by simp) (by simp)
  rw [hW] at hcon
  by_cases h0 : chkP p0 sq0 [xs1] [] = 0
  · rw [h0] at hcon
    obtain ⟨h1, h2, h3, h4⟩ := chkP_pos h0
    have hv := h3 xs1 (by simp)
    have H0 := Lib.hid h0
    clear h0 h3 h4
    obtain ⟨hp, n1, n2', hf⟩ := isSp_iff.1 h1
    have hp1 := hp.lo
    have hp2 := hp.hi
    have L1 := Lib.hid (pointL_len (p := p0) (isV_iff.1 hv).1)
    have hh := hN_fp (p := p0) (n := n2) (by omega)
    have hno : inR n2 0 (p0 - 1) = false → RSphereVector1 p0 sq0 xs1 n2 = 2 ∧ RSphereVector0 p0 sq0 xs1 n2 = [] := fun h => by
      have e : RSphereVector1 p0 sq0 xs1 n2 = 2 := by unfold RSphereVector1; rw [if_pos H0.out, h]; rfl
      exact ⟨e, by unfold RSphereVector0; rw [e]; rfl⟩
    have hyes : inR n2 0 (p0 - 1) = true → RSphereVector1 p0 sq0 xs1 n2 = 0 ∧ RSphereVector0 p0 sq0 xs1 n2 = sphereL p0 sq0 xs1 n2 := fun h => by
      have e : RSphereVector1 p0 sq0 xs1 n2 = 0 := by unfold RSphereVector1; rw [if_pos H0.out, h]; rfl
      exact ⟨e, by unfold RSphereVector0; rw [e]; rfl⟩
    cases hr : inR n2 0 (p0 - 1)
    · skip
      obtain ⟨e1, e0⟩ := hno hr
      rw [e0, e1]
      clear hno hyes e0 e1
      go_enter Try.func37, Try.ntmps37
      go_wp2_with fail
      refine hcon.mono ?_; rintro e w1 ⟨rfl, hb1⟩
      rw [← hW] at hb1
      clear hW hcon
      have d00 := kept hb1 d00; have d01 := kept hb1 d01; have hx0 := hx0.below hb1; have hx1 := hx1.below hb1
      go_wp2_with fail
      refine (spfield_c).mono ?_; rintro e w22 ⟨rfl, hb22⟩
      have d00 := kept hb22 d00; have d01 := kept hb22 d01; have hx0 := hx0.below hb22; have hx1 := hx1.below hb22
      go_wp2_with fail
      have hb23 : Below w22.heap.size w22 (w22.alloc (.cells #[.int .i64 n2] 2)) := (by repeat (first | exact Below.refl _ _ | apply blw_drew | apply blw_alloc | (refine blw_set ?_ (by first | omega | (simp; done) | (simp; omega)) _) | refine below_chain ?_ (by assumption)))
      have d00 := kept hb23 d00; have d01 := kept hb23 d01; have hx0 := hx0.below hb23; have hx1 := hx1.below hb23
      have hlit : OwnI (w22.alloc (.cells #[.int .i64 n2] 2)) w22.heap.size w22.heap.size [n2].length [n2].length [n2] := OwnI.lit (Nat.le_refl _) [n2] (by simp)
      have hl1 := isL_one' (p := p0) (n := n2)
      rw [hr] at hl1
      have HL1 := Lib.hid hl1; clear hl1
      go_wp2_with fail
      refine (is_c (by omega) (by omega) (xs := [n2]) hlit.sl (by simp)).mono ?_; rintro e w24 ⟨rfl, rfl⟩
      simp only [HL1.out]
      go_wp2_with fail
      go_ret2
      exact ⟨_, rfl, .inl ⟨rfl, rfl⟩, (by repeat (first | exact Below.refl _ _ | apply blw_drew | apply blw_alloc | (refine blw_set ?_ (by first | omega | (simp; done) | (simp; omega)) _) | refine below_chain ?_ (by assumption)))⟩
    · skip
      obtain ⟨e1, e0⟩ := hyes hr
      rw [e0, e1]
      clear hno hyes e0 e1
      go_enter Try.func37, Try.ntmps37
      go_wp2_with fail
      refine hcon.mono ?_; rintro e w1 ⟨rfl, hb1⟩
      rw [← hW] at hb1
      clear hW hcon
      have d00 := kept hb1 d00; have d01 := kept hb1 d01; have hx0 := hx0.below hb1; have hx1 := hx1.below hb1
      go_wp2_with fail
      refine (spfield_c).mono ?_; rintro e w22 ⟨rfl, hb22⟩
      have d00 := kept hb22 d00; have d01 := kept hb22 d01; have hx0 := hx0.below hb22; have hx1 := hx1.below hb22
      go_wp2_with fail
      have hb23 : Below w22.heap.size w22 (w22.alloc (.cells #[.int .i64 n2] 2)) := (by repeat (first | exact Below.refl _ _ | apply blw_drew | apply blw_alloc | (refine blw_set ?_ (by first | omega | (simp; done) | (simp; omega)) _) | refine below_chain ?_ (by assumption)))
      have d00 := kept hb23 d00; have d01 := kept hb23 d01; have hx0 := hx0.below hb23; have hx1 := hx1.below hb23
      have hlit : OwnI (w22.alloc (.cells #[.int .i64 n2] 2)) w22.heap.size w22.heap.size [n2].length [n2].length [n2] := OwnI.lit (Nat.le_refl _) [n2] (by simp)
      have hl1 := isL_one' (p := p0) (n := n2)
      rw [hr] at hl1
      have HL1 := Lib.hid hl1; clear hl1
      go_wp2_with fail
      refine (is_c (by omega) (by omega) (xs := [n2]) hlit.sl (by simp)).mono ?_; rintro e w24 ⟨rfl, rfl⟩
      simp only [HL1.out]
      go_wp2_with fail
      refine region_flow [(false, [(0, 1), (2, 1), (3, 0), (5, 1), (7, 1), (9, 0), (1, 5)]), (false, [(4, 5)]), (false, [(6, 5)]), (false, [(8, 4), (10, 4), (11, 0), (12, 4), (13, 0), (14, 0)])] (by kernel_rfl) ?_
      refine norm_K fun K hK => ?_
      change wpList _ _ _ [_, _, _, _, _, _, _] _ _
      have hb25 : Below (w22.alloc (.cells #[.int .i64 n2] 2)).heap.size (w22.alloc (.cells #[.int .i64 n2] 2)) (w22.alloc (.cells #[.int .i64 n2] 2)).drew := (by repeat (first | exact Below.refl _ _ | apply blw_drew | apply blw_alloc | (refine blw_set ?_ (by first | omega | (simp; done) | (simp; omega)) _) | refine below_chain ?_ (by assumption)))
      have d00 := kept hb25 d00; have d01 := kept hb25 d01; have hx0 := hx0.below hb25; have hx1 := hx1.below hb25; have hlit := hlit.below hb25
      go_wp2_with fail
      refine (spfield_c).mono ?_; rintro e w26 ⟨rfl, hb26⟩
      have d00 := kept hb26 d00; have d01 := kept hb26 d01; have hx0 := hx0.below hb26; have hx1 := hx1.below hb26; have hlit := hlit.below hb26
      go_wp2_with fail
      have hz0 : Below (w22.alloc (.cells #[.int .i64 n2] 2)).drew.heap.size (w22.alloc (.cells #[.int .i64 n2] 2)).drew w26 := (by repeat (first | exact Below.refl _ _ | apply blw_drew | apply blw_alloc | (refine blw_set ?_ (by first | omega | (simp; done) | (simp; omega)) _) | refine below_chain ?_ (by assumption)))
      first | (refine hK _ _ ⟨hz0, ?_⟩; clear hK K) | refine ⟨hz0, ?_⟩
      clear hz0
      refine norm_K fun K hK => ?_
      change wpList _ _ _ [_] _ _
      go_wp2_with fail
      refine (point_c h1 hx0 hx1 hv).mono ?_; rintro e w27 ⟨z, rfl, hz, hb27⟩
      have d00 := kept hb27 d00; have d01 := kept hb27 d01; have hx0 := hx0.below hb27; have hx1 := hx1.below hb27; have hlit := hlit.below hb27
      go_wp2_with fail
      have hz1 : Below (w22.alloc (.cells #[.int .i64 n2] 2)).drew.heap.size (w22.alloc (.cells #[.int .i64 n2] 2)).drew w27 := (by repeat (first | exact Below.refl _ _ | apply blw_drew | apply blw_alloc | (refine blw_set ?_ (by first | omega | (simp; done) | (simp; omega)) _) | refine below_chain ?_ (by assumption)))
      first | (refine hK _ _ ⟨hz1, ?_⟩; clear hK K) | refine ⟨hz1, ?_⟩
      clear hz1
      refine norm_K fun K hK => ?_
      change wpList _ _ _ [_] _ _
      go_wp2_with fail
      refine (inf_c hx0 h1).mono ?_; rintro e w28 ⟨u, rfl, hu, hb28⟩
      have d00 := kept hb28 d00; have d01 := kept hb28 d01; have hx0 := hx0.below hb28; have hx1 := hx1.below hb28; have hlit := hlit.below hb28; have hz := hz.below hb28
      go_wp2_with fail
      have hz2 : Below (w22.alloc (.cells #[.int .i64 n2] 2)).drew.heap.size (w22.alloc (.cells #[.int .i64 n2] 2)).drew w28 := (by repeat (first | exact Below.refl _ _ | apply blw_drew | apply blw_alloc | (refine blw_set ?_ (by first | omega | (simp; done) | (simp; omega)) _) | refine below_chain ?_ (by assumption)))
      first | (refine hK _ _ ⟨hz2, ?_⟩; clear hK K) | refine ⟨hz2, ?_⟩
      clear hz2
      refine norm_K fun K hK => ?_
      change wpList _ _ _ [_, _, _, _, _, _] _ _
      go_wp2_with fail
      refine (spfield_c).mono ?_; rintro e w29 ⟨rfl, hb29⟩
      have d00 := kept hb29 d00; have d01 := kept hb29 d01; have hx0 := hx0.below hb29; have hx1 := hx1.below hb29; have hlit := hlit.below hb29; have hz := hz.below hb29; have hu := hu.below hb29
      go_wp2_with fail
      refine (hN_c (by omega) (by omega) (by unfold inR at hr; simp at hr; omega) (by unfold inR at hr; simp at hr; omega)).mono ?_; rintro e w30 ⟨rfl, rfl⟩
      go_wp2_with fail
      refine (plus_c (by omega) (by omega) (by omega) (by omega) hz.sl hu.sl ((pointL_fp (by omega)).sm (by omega) (by omega)) ((infL_fp hp1).sm (by omega) (by omega)) (by rw [infL_len, L1.out]) (by rw [L1.out]; omega)).mono ?_; rintro e w31 ⟨t, rfl, ht, hb31⟩
      have d00 := kept hb31 d00; have d01 := kept hb31 d01; have hx0 := hx0.below hb31; have hx1 := hx1.below hb31; have hlit := hlit.below hb31; have hz := hz.below hb31; have hu := hu.below hb31
      go_wp2_with fail
      first | (refine hK _ _ ⟨rfl, ?_⟩; clear hK K) | refine ⟨rfl, ?_⟩
      go_wp2_with fail
      go_ret2
      exact ⟨_, rfl, ht.ow (below_le (by repeat (first | exact Below.refl _ _ | apply blw_drew | apply blw_alloc | (refine blw_set ?_ (by first | omega | (simp; done) | (simp; omega)) _) | refine below_chain ?_ (by assumption)))), (by repeat (first | exact Below.refl _ _ | apply blw_drew | apply blw_alloc | (refine blw_set ?_ (by first | omega | (simp; done) | (simp; omega)) _) | refine below_chain ?_ (by assumption)))⟩
  · have e1 : RSphereVector1 p0 sq0 xs1 n2 = chkP p0 sq0 [xs1] [] := by unfold RSphereVector1; rw [if_neg h0]
    rw [show RSphereVector0 p0 sq0 xs1 n2 = [] by unfold RSphereVector0; rw [e1, if_neg h0], e1]
    clear e1
    obtain ⟨k, hk⟩ : ∃ k, k = chkP p0 sq0 [xs1] [] := ⟨_, rfl⟩
    rw [← hk] at h0 hcon ⊢
    clear hk
    have hne : (k == 0) = false := by simpa using h0
    go_enter Try.func37, Try.ntmps37
    go_wp2_with fail
    refine hcon.mono ?_; rintro e w1 ⟨rfl, hb1⟩
    rw [← hW] at hb1
    clear hW hcon
    go_wp2_with fail
    go_ret2
    exact ⟨_, rfl, .inl ⟨rfl, rfl⟩, (by repeat (first | exact Below.refl _ _ | apply blw_drew | apply blw_alloc | (refine blw_set ?_ (by first | omega | (simp; done) | (simp; omega)) _) | refine below_chain ?_ (by assumption)))⟩
theorem sSphereVector_c {p0 : Int} {x0 : Value} {sq0 : List Int} {x1 : Value} {xs1 : List Int} {n2 : Int} {w : World} (hx0 : Sl w x0 sq0) (hm0 : sq0.length ≤ 1048576) (hx1 : Sl w x1 xs1) (hm1 : xs1.length ≤ 1048576) (lo2 : -9223372036854775808 ≤ n2) (hi2 : n2 ≤ 9223372036854775807) :
    Calls Try.prog 36 #[.agg #[.int .i64 p0, x0], x1, .int .i64 n2] w fun e w' => ∃ v0, e = .returned (.tuple #[v0, .int .i64 (RSphereVector1 p0 sq0 xs1 n2)]) ∧ OwI w' w.heap.size v0 (RSphereVector0 p0 sq0 xs1 n2) ∧ Below w.heap.size w w' := by
  obtain ⟨a0, c0, rfl, _⟩ := id hx0
  obtain ⟨a1, c1, rfl, _⟩ := id hx1
  obtain ⟨W, hW⟩ : ∃ W, W = ((w.alloc (.cells #[.int .i64 p0, .slice a0 sq0.length c0] 28)).alloc (.cells #[.slice a1 xs1.length c1] 22)) := ⟨_, rfl⟩
  have hbW : Below w.heap.size w W := by rw [hW]; exact (by repeat (first | exact Below.refl _ _ | apply blw_drew | apply blw_alloc | (refine blw_set ?_ (by first | omega | (simp; done) | (simp; omega)) _) | refine below_chain ?_ (by assumption)))
  have hx0 := hx0.below hbW
  have hx1 := hx1.below hbW
  have d00 : W.cell? ⟨w.heap.size, 0, none⟩ = some (.int .i64 p0) := by rw [hW]; simp [go_sem]
  have d01 : W.cell? ⟨w.heap.size, 1, none⟩ = some (.slice a0 sq0.length c0) := by rw [hW]; simp [go_sem]
  have glx : Rl W (.slice (some ⟨w.heap.size + 1, 0, none⟩) 1 1) [xs1] := Rl.one hx1 (by rw [hW]; simp [go_sem])
  have hcon := scode_c (p := p0) hx0 glx hm0 (by simp) (by simpa using hm1)
  rw [hW] at hcon
  by_cases h0 : chkP p0 sq0 [xs1] [] = 0
  · rw [h0] at hcon
    obtain ⟨h1, h2, h3, h4⟩ := chkP_pos h0
    have hv := h3 xs1 (by simp)
    have H0 := Lib.hid h0
    clear h0 h3 h4
    obtain ⟨hp, n1, n2', hf⟩ := isSp_iff.1 h1
    have hp1 := hp.lo
    have hp2 := hp.hi
    have L1 := Lib.hid (pointL_len (p := p0) (isV_iff.1 hv).1)
    have hh := hN_fp (p := p0) (n := n2) (by omega)
    have hno : inR n2 0 (p0 - 1) = false → RSphereVector1 p0 sq0 xs1 n2 = 2 ∧ RSphereVector0 p0 sq0 xs1 n2 = [] := fun h => by
      have e : RSphereVector1 p0 sq0 xs1 n2 = 2 := by unfold RSphereVector1; rw [if_pos H0.out, h]; rfl
      exact ⟨e, by unfold RSphereVector0; rw [e]; rfl⟩
    have hyes : inR n2 0 (p0 - 1) = true → RSphereVector1 p0 sq0 xs1 n2 = 0 ∧ RSphereVector0 p0 sq0 xs1 n2 = sphereL p0 sq0 xs1 n2 := fun h => by
      have e : RSphereVector1 p0 sq0 xs1 n2 = 0 := by unfold RSphereVector1; rw [if_pos H0.out, h]; rfl
      exact ⟨e, by unfold RSphereVector0; rw [e]; rfl⟩
    cases hr : inR n2 0 (p0 - 1)
    · skip
      obtain ⟨e1, e0⟩ := hno hr
      rw [e0, e1]
      clear hno hyes e0 e1
      go_enter Try.func36, Try.ntmps36
      go_wp2_with fail
      refine hcon.mono ?_; rintro e w1 ⟨rfl, hb1⟩
      rw [← hW] at hb1
      clear hW hcon
      have d00 := kept hb1 d00; have d01 := kept hb1 d01; have hx0 := hx0.below hb1; have hx1 := hx1.below hb1
      go_wp2_with fail
      refine (sin_c).mono ?_; rintro e w22 ⟨rfl, rfl⟩
      simp only [hr]
      go_wp2_with fail
      go_ret2
      exact ⟨_, rfl, .inl ⟨rfl, rfl⟩, (by repeat (first | exact Below.refl _ _ | apply blw_drew | apply blw_alloc | (refine blw_set ?_ (by first | omega | (simp; done) | (simp; omega)) _) | refine below_chain ?_ (by assumption)))⟩
    · skip
      obtain ⟨e1, e0⟩ := hyes hr
      rw [e0, e1]
      clear hno hyes e0 e1
      go_enter Try.func36, Try.ntmps36
      go_wp2_with fail
      refine hcon.mono ?_; rintro e w1 ⟨rfl, hb1⟩
      rw [← hW] at hb1
      clear hW hcon
      have d00 := kept hb1 d00; have d01 := kept hb1 d01; have hx0 := hx0.below hb1; have hx1 := hx1.below hb1
      go_wp2_with fail
      refine (sin_c).mono ?_; rintro e w22 ⟨rfl, rfl⟩
      simp only [hr]
      go_wp2_with fail
      refine (ssphere_c h1 hx0 hx1 hv hr).mono ?_; rintro e w23 ⟨t, rfl, ht, hb23⟩
      have d00 := kept hb23 d00; have d01 := kept hb23 d01; have hx0 := hx0.below hb23; have hx1 := hx1.below hb23
      go_wp2_with fail
      go_ret2
      exact ⟨_, rfl, ht.ow (below_le (by repeat (first | exact Below.refl _ _ | apply blw_drew | apply blw_alloc | (refine blw_set ?_ (by first | omega | (simp; done) | (simp; omega)) _) | refine below_chain ?_ (by assumption)))), (by repeat (first | exact Below.refl _ _ | apply blw_drew | apply blw_alloc | (refine blw_set ?_ (by first | omega | (simp; done) | (simp; omega)) _) | refine below_chain ?_ (by assumption)))⟩
  · have e1 : RSphereVector1 p0 sq0 xs1 n2 = chkP p0 sq0 [xs1] [] := by unfold RSphereVector1; rw [if_neg h0]
    rw [show RSphereVector0 p0 sq0 xs1 n2 = [] by unfold RSphereVector0; rw [e1, if_neg h0], e1]
    clear e1
    obtain ⟨k, hk⟩ : ∃ k, k = chkP p0 sq0 [xs1] [] := ⟨_, rfl⟩
    rw [← hk] at h0 hcon ⊢
    clear hk
    have hne : (k == 0) = false := by simpa using h0
    go_enter Try.func36, Try.ntmps36
    go_wp2_with fail
    refine hcon.mono ?_; rintro e w1 ⟨rfl, hb1⟩
    rw [← hW] at hb1
    clear hW hcon
    go_wp2_with fail
    go_ret2
    exact ⟨_, rfl, .inl ⟨rfl, rfl⟩, (by repeat (first | exact Below.refl _ _ | apply blw_drew | apply blw_alloc | (refine blw_set ?_ (by first | omega | (simp; done) | (simp; omega)) _) | refine below_chain ?_ (by assumption)))⟩
theorem law_SphereVector {p0 : Int} {x0 : Value} {sq0 : List Int} {x1 : Value} {xs1 : List Int} {n2 : Int} {w : World} (hx0 : Sl w x0 sq0) (hm0 : sq0.length ≤ 9223372036854775807) (hx1 : Sl w x1 xs1) (hm1 : xs1.length ≤ 9223372036854775807) (lo2 : -9223372036854775808 ≤ n2) (hi2 : n2 ≤ 9223372036854775807) :
    Calls Try.prog 9 #[.agg #[.int .i64 p0, x0], x1, .int .i64 n2] w fun e w' => e = .returned (.bool true) ∧ Below w.heap.size w w' := by
  obtain ⟨a0, c0, rfl, _⟩ := id hx0
  obtain ⟨a1, c1, rfl, _⟩ := id hx1
  by_cases hl1 : xs1.length ≤ 1048576
  case neg =>
    go_enter Try.func9, Try.ntmps9
    go_wp2_with fail
    go_ret
    exact ⟨rfl, (by repeat (first | exact Below.refl _ _ | apply blw_drew | apply blw_alloc | (refine blw_set ?_ (by first | omega | (simp; done) | (simp; omega)) _) | refine below_chain ?_ (by assumption)))⟩
  obtain ⟨z0, hz0⟩ : ∃ z, z = szI 1048576 sq0.length := ⟨_, rfl⟩
  have hzb0 := szI_bd (left := 1048576) (n := sq0.length) (by decide) (by decide)
  rw [← hz0] at hzb0
  by_cases hs0 : z0 < 0
  case pos =>
    go_enter Try.func9, Try.ntmps9
    go_wp2_with (go_at_call 15; refine (szsp_c (by decide) (by decide) (by omega)).mono ?_; rintro e w1 ⟨rfl, hb1⟩; simp only [← hz0])
    go_ret
    exact ⟨rfl, (by repeat (first | exact Below.refl _ _ | apply blw_drew | apply blw_alloc | (refine blw_set ?_ (by first | omega | (simp; done) | (simp; omega)) _) | refine below_chain ?_ (by assumption)))⟩
  have hl0 : sq0.length ≤ 1048576 := by rw [hz0] at hs0; have := cnt_bd hs0; omega
  have hI := fun (W : World) (x0 : Value) (hx0 : Sl W x0 sq0) (x1 : Value) (hx1 : Sl W x1 xs1) => iSphereVector_c (w := W) (p0 := p0) hx0 hl0 hx1 hl1 lo2 hi2
  have hS := fun (W : World) (x0 : Value) (hx0 : Sl W x0 sq0) (x1 : Value) (hx1 : Sl W x1 xs1) => sSphereVector_c (w := W) (p0 := p0) hx0 hl0 hx1 hl1 lo2 hi2
  have yl0 := RSphereVector0_len p0 sq0 xs1 n2 hl0 hl1
  obtain ⟨y0, hy0⟩ : ∃ y, y = RSphereVector0 p0 sq0 xs1 n2 := ⟨_, rfl⟩
  obtain ⟨y1, hy1⟩ : ∃ y, y = RSphereVector1 p0 sq0 xs1 n2 := ⟨_, rfl⟩
  simp only [← hy0, ← hy1] at hI hS yl0
  clear hy0 hy1
  go_enter Try.func9, Try.ntmps9
  have hb0 : Below w.heap.size w (w.alloc (.cells #[.int .i64 p0, .slice a0 sq0.length c0] 24)) := (by repeat (first | exact Below.refl _ _ | apply blw_drew | apply blw_alloc | (refine blw_set ?_ (by first | omega | (simp; done) | (simp; omega)) _) | refine below_chain ?_ (by assumption)))
  have hx0 := hx0.below hb0; have hx1 := hx1.below hb0
  have d00 : (w.alloc (.cells #[.int .i64 p0, .slice a0 sq0.length c0] 24)).cell? ⟨w.heap.size, 0, none⟩ = some (.int .i64 p0) := by simp [go_sem]
  have d01 : (w.alloc (.cells #[.int .i64 p0, .slice a0 sq0.length c0] 24)).cell? ⟨w.heap.size, 1, none⟩ = some (.slice a0 sq0.length c0) := by simp [go_sem]
  go_wp2_with fail
  refine (szsp_c (by decide) (by decide) (by omega)).mono ?_; rintro e w1 ⟨rfl, hb1⟩
  simp only [← hz0]
  have hx0 := hx0.below hb1; have hx1 := hx1.below hb1; have d00 := kept hb1 d00; have d01 := kept hb1 d01
  go_wp2_with fail
  refine (tosp_c hx0 hl0).mono ?_; rintro e w2 ⟨t0, rfl, ht0, hb2⟩
  have hx0 := hx0.below hb2; have hx1 := hx1.below hb2; have d00 := kept hb2 d00; have d01 := kept hb2 d01
  go_wp2_with fail
  refine (to_c hx1 hl1).mono ?_; rintro e w3 ⟨t1, rfl, ht1, hb3⟩
  have hx0 := hx0.below hb3; have hx1 := hx1.below hb3; have d00 := kept hb3 d00; have d01 := kept hb3 d01; have ht0 := ht0.below hb3
  go_wp2_with fail
  refine (hS _ _ ht0.sl _ ht1.sl).mono ?_; rintro e w4 ⟨s0, rfl, hs0', hb4⟩
  have hx0 := hx0.below hb4; have hx1 := hx1.below hb4; have d00 := kept hb4 d00; have d01 := kept hb4 d01
  have hx0_ := hx0
  have hx1_ := hx1
  have d00_ := d00
  have d01_ := d01
  have hs0'_ := hs0'
  go_wp2_with fail
  refine (tosp_c hx0 hl0).mono ?_; rintro e w5 ⟨t0, rfl, ⟨g0, k0, rfl, ht0⟩, hb5⟩
  have hx0 := hx0.below hb5; have hx1 := hx1.below hb5; have d00 := kept hb5 d00; have d01 := kept hb5 d01; have hs0' := hs0'.below hb5
  have le5 := hb5.size; have ub0 : g0 < w5.heap.size := ht0.lt.2; have lb0 : w4.heap.size ≤ g0 := ht0.lt.1
  have hb6 : Below w5.heap.size w5 (w5.alloc (.cells #[.int .i64 p0, .slice (some ⟨g0, 0, none⟩) sq0.length k0] 28)) := (by repeat (first | exact Below.refl _ _ | apply blw_drew | apply blw_alloc | (refine blw_set ?_ (by first | omega | (simp; done) | (simp; omega)) _) | refine below_chain ?_ (by assumption)))
  have hx0 := hx0.below hb6; have hx1 := hx1.below hb6; have d00 := kept hb6 d00; have d01 := kept hb6 d01; have hs0' := hs0'.below hb6; have ht0 := ht0.below hb6
  have e00 : (w5.alloc (.cells #[.int .i64 p0, .slice (some ⟨g0, 0, none⟩) sq0.length k0] 28)).cell? ⟨w5.heap.size, 0, none⟩ = some (.int .i64 p0) := by simp [go_sem]
  have e01 : (w5.alloc (.cells #[.int .i64 p0, .slice (some ⟨g0, 0, none⟩) sq0.length k0] 28)).cell? ⟨w5.heap.size, 1, none⟩ = some (.slice (some ⟨g0, 0, none⟩) sq0.length k0) := by simp [go_sem]
  have le6 : (w5.alloc (.cells #[.int .i64 p0, .slice (some ⟨g0, 0, none⟩) sq0.length k0] 28)).heap.size = w5.heap.size + 1 := by simp
  go_wp2_with fail
  refine (to_c hx1 hl1).mono ?_; rintro e w7 ⟨t1, rfl, ⟨g1, k1, rfl, ht1⟩, hb7⟩
  have hx0 := hx0.below hb7; have hx1 := hx1.below hb7; have d00 := kept hb7 d00; have d01 := kept hb7 d01; have hs0' := hs0'.below hb7; have ht0 := ht0.below hb7; have e00 := kept hb7 e00; have e01 := kept hb7 e01
  have le7 := hb7.size; have ub1 : g1 < w7.heap.size := ht1.lt.2; have lb1 : (w5.alloc (.cells #[.int .i64 p0, .slice (some ⟨g0, 0, none⟩) sq0.length k0] 28)).heap.size ≤ g1 := ht1.lt.1
  go_wp2_with fail
  refine (hI _ _ ht0.sl _ ht1.sl).mono ?_; rintro e w8 ⟨g100', rfl, hg0, hb8⟩
  have hx0 := hx0.below hb8; have hx1 := hx1.below hb8; have d00 := kept hb8 d00; have d01 := kept hb8 d01; have hs0' := hs0'.below hb8; have ht0 := ht0.below hb8; have e00 := kept hb8 e00; have e01 := kept hb8 e01; have ht1 := ht1.below hb8
  have bg0 := hg0.blk
  have le8 := hb8.size
  go_wp2_with fail
  refine (eqs_c hg0.sl hs0'.sl yl0).mono ?_; rintro e w9 ⟨rfl, hb9⟩
  have hx0 := hx0.below hb9; have hx1 := hx1.below hb9; have d00 := kept hb9 d00; have d01 := kept hb9 d01; have hs0' := hs0'.below hb9; have ht0 := ht0.below hb9; have e00 := kept hb9 e00; have e01 := kept hb9 e01; have ht1 := ht1.below hb9; have hg0 := hg0.below hb9
  go_wp2_with fail
  refine region_flow [(false, [(0, 1), (1, 1), (2, 5)]), (false, [(3, 4), (4, 0)])] (by kernel_rfl) ?_
  refine norm_K fun K hK => ?_
  change wpList _ _ _ [_, _, _] _ _
  have hb10 : Below w9.heap.size w9 w9.drew := (by repeat (first | exact Below.refl _ _ | apply blw_drew | apply blw_alloc | (refine blw_set ?_ (by first | omega | (simp; done) | (simp; omega)) _) | refine below_chain ?_ (by assumption)))
  have hx0 := hx0.below hb10; have hx1 := hx1.below hb10; have d00 := kept hb10 d00; have d01 := kept hb10 d01; have hs0' := hs0'.below hb10; have ht0 := ht0.below hb10; have e00 := kept hb10 e00; have e01 := kept hb10 e01; have ht1 := ht1.below hb10; have hg0 := hg0.below hb10
  go_wp2_with fail
  refine (tosp_c hx0 hl0).mono ?_; rintro e w11 ⟨u0, rfl, hu0, hb11⟩
  have hx0 := hx0.below hb11; have hx1 := hx1.below hb11; have d00 := kept hb11 d00; have d01 := kept hb11 d01; have hs0' := hs0'.below hb11; have ht0 := ht0.below hb11; have e00 := kept hb11 e00; have e01 := kept hb11 e01; have ht1 := ht1.below hb11; have hg0 := hg0.below hb11
  go_wp2_with fail
  first | (refine hK _ _ ⟨hb11, ?_⟩; clear hK K) | refine ⟨hb11, ?_⟩
  refine norm_K fun K hK => ?_
  change wpList _ _ _ [_, _] _ _
  go_wp2_with fail
  refine (eqsps_c ht0.sl hu0.sl hl0).mono ?_; rintro e w12 ⟨rfl, hb12⟩
  have hx0 := hx0.below hb12; have hx1 := hx1.below hb12; have d00 := kept hb12 d00; have d01 := kept hb12 d01; have hs0' := hs0'.below hb12; have ht0 := ht0.below hb12; have e00 := kept hb12 e00; have e01 := kept hb12 e01; have ht1 := ht1.below hb12; have hg0 := hg0.below hb12
  go_wp2_with fail
  first | (refine hK _ _ ⟨rfl, ?_⟩; clear hK K) | refine ⟨rfl, ?_⟩
  go_wp2_with fail
  refine (to_c hx1 hl1).mono ?_; rintro e w13 ⟨u1, rfl, hu1, hb13⟩
  have hx0 := hx0.below hb13; have hx1 := hx1.below hb13; have d00 := kept hb13 d00; have d01 := kept hb13 d01; have hs0' := hs0'.below hb13; have ht0 := ht0.below hb13; have e00 := kept hb13 e00; have e01 := kept hb13 e01; have ht1 := ht1.below hb13; have hg0 := hg0.below hb13
  go_wp2_with fail
  refine (eqs_c ht1.sl hu1.sl hl1).mono ?_; rintro e w14 ⟨rfl, hb14⟩
  have hx0 := hx0.below hb14; have hx1 := hx1.below hb14; have d00 := kept hb14 d00; have d01 := kept hb14 d01; have hs0' := hs0'.below hb14; have ht0 := ht0.below hb14; have e00 := kept hb14 e00; have e01 := kept hb14 e01; have ht1 := ht1.below hb14; have hg0 := hg0.below hb14
  go_wp2_with fail
  have hW0 : Below w4.heap.size w4 w14 := (by repeat (first | exact Below.refl _ _ | apply blw_drew | apply blw_alloc | (refine blw_set ?_ (by first | omega | (simp; done) | (simp; omega)) _) | refine below_chain ?_ (by assumption)))
  refine (marksp_c (ht0.fr.ow (Nat.le_refl _)) hl0 (by omega) (by omega)).mono ?_; rintro e w15 ⟨rfl, hm0_, hgr0⟩
  have hb15 := blw_mark hW0 hgr0 (fun j hj => by have e : g0 = j := Option.some.inj hj; omega); clear hW0
  have hx0 := hx0_.below hb15
  have hx1 := hx1_.below hb15
  have d00 := kept hb15 d00_
  have d01 := kept hb15 d01_
  have hs0' := hs0'_.below hb15
  have e00 := farc hgr0 e00 (fun hj => absurd (Option.some.inj (show some _ = some g0 from hj)) (by omega))
  have e01 := farc hgr0 e01 (fun hj => absurd (Option.some.inj (show some _ = some g0 from hj)) (by omega))
  have ht1 := ht1.grown hgr0 (fun hj => absurd (Option.some.inj (show some _ = some g0 from hj)) (by omega))
  have hg0 := hg0.far hgr0 (fun j hj => by have e : g0 = j := Option.some.inj hj; omega)
  go_wp2_with fail
  have hW1 : Below w4.heap.size w4 w15 := (by repeat (first | exact Below.refl _ _ | apply blw_drew | apply blw_alloc | (refine blw_set ?_ (by first | omega | (simp; done) | (simp; omega)) _) | refine below_chain ?_ (by assumption)))
  refine (mark_c (ht1.fr.ow (Nat.le_refl _)) hl1 (by omega) (by omega)).mono ?_; rintro e w16 ⟨rfl, hm1_, hgr1⟩
  have hb16 := blw_mark hW1 hgr1 (fun j hj => by have e : g1 = j := Option.some.inj hj; omega); clear hW1
  have hx0 := hx0_.below hb16
  have hx1 := hx1_.below hb16
  have d00 := kept hb16 d00_
  have d01 := kept hb16 d01_
  have hs0' := hs0'_.below hb16
  have e00 := farc hgr1 e00 (fun hj => absurd (Option.some.inj (show some _ = some g1 from hj)) (by omega))
  have e01 := farc hgr1 e01 (fun hj => absurd (Option.some.inj (show some _ = some g1 from hj)) (by omega))
  have hg0 := hg0.far hgr1 (fun j hj => by have e : g1 = j := Option.some.inj hj; omega)
  go_wp2_with fail
  refine (eqs_c hg0.sl hs0'.sl yl0).mono ?_; rintro e w17 ⟨rfl, hb17⟩
  have hx0 := hx0.below hb17; have hx1 := hx1.below hb17; have d00 := kept hb17 d00; have d01 := kept hb17 d01; have hs0' := hs0'.below hb17; have e00 := kept hb17 e00; have e01 := kept hb17 e01; have hg0 := hg0.below hb17
  go_wp2_with fail
  have hWg : Below w4.heap.size w4 w17 := (by repeat (first | exact Below.refl _ _ | apply blw_drew | apply blw_alloc | (refine blw_set ?_ (by first | omega | (simp; done) | (simp; omega)) _) | refine below_chain ?_ (by assumption)))
  have lg : w4.heap.size ≤ w7.heap.size := (below_le (by repeat (first | exact Below.refl _ _ | apply blw_drew | apply blw_alloc | (refine blw_set ?_ (by first | omega | (simp; done) | (simp; omega)) _) | refine below_chain ?_ (by assumption))))
  refine (mark_c hg0 yl0 (by omega) (by omega)).mono ?_; rintro e w18 ⟨rfl, hg0, hgrg⟩
  have hb18 := blw_mark hWg hgrg (fun j hj => by have := bg0 j hj; omega); clear hWg
  have hx0 := hx0_.below hb18
  have hx1 := hx1_.below hb18
  have d00 := kept hb18 d00_
  have d01 := kept hb18 d01_
  have hs0' := hs0'_.below hb18
  go_wp2_with fail
  refine (held_c (n := y0.length) hg0.sl yl0 (by omega) (by omega)).mono ?_; rintro e w19 ⟨rfl, rfl⟩
  go_wp2_with fail
  refine (tosp_c hx0 hl0).mono ?_; rintro e w20 ⟨r0, rfl, hr0, hb20⟩
  have hx0 := hx0.below hb20; have hx1 := hx1.below hb20; have d00 := kept hb20 d00; have d01 := kept hb20 d01; have hs0' := hs0'.below hb20; have hg0 := hg0.below hb20
  go_wp2_with fail
  refine (to_c hx1 hl1).mono ?_; rintro e w21 ⟨r1, rfl, hr1, hb21⟩
  have hx0 := hx0.below hb21; have hx1 := hx1.below hb21; have d00 := kept hb21 d00; have d01 := kept hb21 d01; have hs0' := hs0'.below hb21; have hg0 := hg0.below hb21; have hr0 := hr0.below hb21
  go_wp2_with fail
  refine (hI _ _ hr0.sl _ hr1.sl).mono ?_; rintro e w22 ⟨f100', rfl, hf0, hb22⟩
  have hx0 := hx0.below hb22; have hx1 := hx1.below hb22; have d00 := kept hb22 d00; have d01 := kept hb22 d01; have hs0' := hs0'.below hb22; have hg0 := hg0.below hb22
  go_wp2_with fail
  refine (eqs_c hf0.sl hs0'.sl yl0).mono ?_; rintro e w23 ⟨rfl, hb23⟩
  have hx0 := hx0.below hb23; have hx1 := hx1.below hb23; have d00 := kept hb23 d00; have d01 := kept hb23 d01; have hs0' := hs0'.below hb23; have hg0 := hg0.below hb23; have hf0 := hf0.below hb23
  go_wp2_with fail
  refine (held_c (n := y0.length) hg0.sl yl0 (by omega) (by omega)).mono ?_; rintro e w24 ⟨rfl, rfl⟩
  go_wp2_with fail
  go_ret
  exact ⟨rfl, (by repeat (first | exact Below.refl _ _ | apply blw_drew | apply blw_alloc | (refine blw_set ?_ (by first | omega | (simp; done) | (simp; omega)) _) | refine below_chain ?_ (by assumption)))⟩
end Go.Proofs.Ytcpeogbneliceaa
