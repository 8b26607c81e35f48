/-
  A vector inverted at a sphere: the program's and the reference's, and the law.
-/
import Derived.Test.YtcpeogbneliceaaSphP
namespace Go.Proofs.Ytcpeogbneliceaa
open Go.RowKit

/-- A vector reflected. -/
def reflL (p : Int) (sq u v : List Int) : List Int := plusL p v u (-2 * pairL p sq u v * invL p (pairL p sq u u))
theorem reflL_len {p : Int} {sq u v : List Int} (h : u.length = v.length) : (reflL p sq u v).length = v.length := plusL_len h
theorem reflL_fp {p : Int} {sq u v : List Int} (hp : 1 ≤ p) : Fp p (reflL p sq u v) := plusL_fp hp
theorem refl_eq {p N : Int} {sq x pt : List Int} (hp : IsP p) (hN : N = pairL p sq x x) : plusL p pt (scaleL p x (2 * pairL p sq pt x * invL p N % p)) (p - 1) = reflL p sq x pt := by
  obtain ⟨n, rfl, hn⟩ := hp.nat
  subst hN
  unfold reflL
  rw [zw_scale2]
  refine plusL_cong ?_
  rw [pairL_comm' n sq pt x, ← toF_eq]
  simp only [toF_mul, toF_mod, toF_sub, toF_neg, toF_self, toF_one, toF_two]
  grind
theorem refl_c {p0 : Int} {x0 x1 x2 : Value} {sq0 xs1 xs2 : List Int} {w : World} (hs : isSp p0 sq0 = true) (hx0 : Sl w x0 sq0) (hx1 : Sl w x1 xs1) (hx2 : Sl w x2 xs2) (hv1 : isV p0 sq0 xs1 = true) (hv2 : isV p0 sq0 xs2 = true) :
    Calls Try.prog 83 #[.agg #[.int .i64 p0, x0], x1, x2] w fun e w' => ∃ v, e = .returned v ∧ FrI w' w.heap.size v (reflL p0 sq0 xs1 xs2) ∧ Below w.heap.size w w' := by
  obtain ⟨hp, n1, n2, hf⟩ := isSp_iff.1 hs
  obtain ⟨l1, f1⟩ := isV_iff.1 hv1
  obtain ⟨l2, f2⟩ := isV_iff.1 hv2
  have hp1 := hp.lo
  have hp2 := hp.hi
  obtain ⟨a0, c0, rfl, _⟩ := id hx0
  have b1 : xs1.length ≤ 6 := by omega
  have b2 : xs2.length ≤ 6 := by omega
  have L1 := Lib.hid l1; have L2 := Lib.hid l2; clear l1 l2
  have hq := pairL_fp (p := p0) (sq := sq0) (v := xs1) (w := xs2) (by omega)
  have hq2 := pairL_fp (p := p0) (sq := sq0) (v := xs1) (w := xs1) (by omega)
  have hi := invL_fp (p := p0) (a := pairL p0 sq0 xs1 xs1) (by omega)
  have hm := mulb (A := 26) (B := 13) (k := -2 * pairL p0 sq0 xs1 xs2) (y := invL p0 (pairL p0 sq0 xs1 xs1)) (by omega) (by omega) (by omega) (by omega)
  go_enter Try.func83, Try.ntmps83
  have hb0 : Below w.heap.size w (w.alloc (.cells #[.int .i64 p0, .slice a0 sq0.length c0] 28)) := (by repeat (first | exact Below.refl _ _ | apply blw_drew | apply blw_alloc | (refine blw_set ?_ (by first | omega | (simp; done) | (simp; omega)) _) | refine below_chain ?_ (by assumption)))
  have hx0 := hx0.below hb0; have hx1 := hx1.below hb0; have hx2 := hx2.below hb0
  have d00 : (w.alloc (.cells #[.int .i64 p0, .slice a0 sq0.length c0] 28)).cell? ⟨w.heap.size, 0, none⟩ = some (.int .i64 p0) := by simp [go_sem]
  have d01 : (w.alloc (.cells #[.int .i64 p0, .slice a0 sq0.length c0] 28)).cell? ⟨w.heap.size, 1, none⟩ = some (.slice a0 sq0.length c0) := by simp [go_sem]
  go_wp2_with fail
  refine region_flow [(false, [(0, 1), (2, 0), (3, 0), (4, 1), (5, 0), (6, 0), (9, 1), (11, 1), (12, 0), (1, 5)]), (false, [(7, 5)]), (false, [(8, 0), (10, 5)]), (false, [(13, 4), (14, 4), (15, 0), (16, 4), (17, 0)])] (by kernel_rfl) ?_
  refine norm_K fun K hK => ?_
  change wpList _ _ _ [_, _, _, _, _, _, _, _, _, _] _ _
  have hb1 : Below (w.alloc (.cells #[.int .i64 p0, .slice a0 sq0.length c0] 28)).heap.size (w.alloc (.cells #[.int .i64 p0, .slice a0 sq0.length c0] 28)) (w.alloc (.cells #[.int .i64 p0, .slice a0 sq0.length c0] 28)).drew := (by repeat (first | exact Below.refl _ _ | apply blw_drew | apply blw_alloc | (refine blw_set ?_ (by first | omega | (simp; done) | (simp; omega)) _) | refine below_chain ?_ (by assumption)))
  have hx0 := hx0.below hb1; have hx1 := hx1.below hb1; have hx2 := hx2.below hb1; have d00 := kept hb1 d00; have d01 := kept hb1 d01
  go_wp2_with fail
  refine (spfield_c).mono ?_; rintro e w2 ⟨rfl, hb2⟩
  have hx0 := hx0.below hb2; have hx1 := hx1.below hb2; have hx2 := hx2.below hb2; have d00 := kept hb2 d00; have d01 := kept hb2 d01
  go_wp2_with fail
  have hz0 : Below (w.alloc (.cells #[.int .i64 p0, .slice a0 sq0.length c0] 28)).drew.heap.size (w.alloc (.cells #[.int .i64 p0, .slice a0 sq0.length c0] 28)).drew w2 := (by repeat (first | exact Below.refl _ _ | apply blw_drew | apply blw_alloc | (refine blw_set ?_ (by first | omega | (simp; done) | (simp; omega)) _) | refine below_chain ?_ (by assumption)))
  first | (refine hK _ _ ⟨hz0, ?_⟩; clear hK K) | refine ⟨hz0, ?_⟩
  clear hz0
  refine norm_K fun K hK => ?_
  change wpList _ _ _ [_] _ _
  go_wp2_with fail
  refine (pair_c (by omega) (by omega) hx0 hx1 hx2 (hf.sm (by omega) (by omega)) (f1.sm (by omega) (by omega)) (f2.sm (by omega) (by omega)) L1.out.symm (by rw [L1.out, L2.out]) (by omega) (by omega)).mono ?_; rintro e w3 ⟨rfl, hb3⟩
  have hx0 := hx0.below hb3; have hx1 := hx1.below hb3; have hx2 := hx2.below hb3; have d00 := kept hb3 d00; have d01 := kept hb3 d01
  go_wp2_with fail
  have hz1 : Below (w.alloc (.cells #[.int .i64 p0, .slice a0 sq0.length c0] 28)).drew.heap.size (w.alloc (.cells #[.int .i64 p0, .slice a0 sq0.length c0] 28)).drew w3 := (by repeat (first | exact Below.refl _ _ | apply blw_drew | apply blw_alloc | (refine blw_set ?_ (by first | omega | (simp; done) | (simp; omega)) _) | refine below_chain ?_ (by assumption)))
  first | (refine hK _ _ ⟨hz1, ?_⟩; clear hK K) | refine ⟨hz1, ?_⟩
  clear hz1
  refine norm_K fun K hK => ?_
  change wpList _ _ _ [_, _] _ _
  go_wp2_with fail
  refine (spfield_c).mono ?_; rintro e w4 ⟨rfl, hb4⟩
  have hx0 := hx0.below hb4; have hx1 := hx1.below hb4; have hx2 := hx2.below hb4; have d00 := kept hb4 d00; have d01 := kept hb4 d01
  go_wp2_with fail
  have hz2 : Below (w.alloc (.cells #[.int .i64 p0, .slice a0 sq0.length c0] 28)).drew.heap.size (w.alloc (.cells #[.int .i64 p0, .slice a0 sq0.length c0] 28)).drew w4 := (by repeat (first | exact Below.refl _ _ | apply blw_drew | apply blw_alloc | (refine blw_set ?_ (by first | omega | (simp; done) | (simp; omega)) _) | refine below_chain ?_ (by assumption)))
  first | (refine hK _ _ ⟨hz2, ?_⟩; clear hK K) | refine ⟨hz2, ?_⟩
  clear hz2
  refine norm_K fun K hK => ?_
  change wpList _ _ _ [_, _, _, _, _] _ _
  go_wp2_with fail
  refine (norm_c (by omega) (by omega) hx0 hx1 (hf.sm (by omega) (by omega)) (f1.sm (by omega) (by omega)) L1.out.symm (by omega) (by omega)).mono ?_; rintro e w5 ⟨rfl, hb5⟩
  have hx0 := hx0.below hb5; have hx1 := hx1.below hb5; have hx2 := hx2.below hb5; have d00 := kept hb5 d00; have d01 := kept hb5 d01
  go_wp2_with fail
  refine (inv_c (by omega) (by omega) (by omega) (by omega)).mono ?_; rintro e w6 ⟨rfl, rfl⟩
  go_wp2_with fail
  refine (plus_c (by omega) (by omega) (by omega) (by omega) hx2 hx1 (f2.sm (by omega) (by omega)) (f1.sm (by omega) (by omega)) (by rw [L1.out, L2.out]) (by omega)).mono ?_; rintro e w7 ⟨t, rfl, ht, hb7⟩
  have hx0 := hx0.below hb7; have hx1 := hx1.below hb7; have hx2 := hx2.below hb7; have d00 := kept hb7 d00; have d01 := kept hb7 d01
  go_wp2_with fail
  first | (refine hK _ _ ⟨rfl, ?_⟩; clear hK K) | refine ⟨rfl, ?_⟩
  go_wp2_with fail
  go_ret
  exact ⟨_, rfl, ht.more (below_le (by repeat (first | exact Below.refl _ _ | apply blw_drew | apply blw_alloc | (refine blw_set ?_ (by first | omega | (simp; done) | (simp; omega)) _) | refine below_chain ?_ (by assumption)))), (by repeat (first | exact Below.refl _ _ | apply blw_drew | apply blw_alloc | (refine blw_set ?_ (by first | omega | (simp; done) | (simp; omega)) _) | refine below_chain ?_ (by assumption)))⟩
def outL (p : Int) (sq xs vs : List Int) : List Int := reflL p (extL p sq) xs (pointL p sq vs)
def RInvertAt1 (p : Int) (sq xs vs : List Int) : Int := if chkP p sq [vs] [xs] = 0 then (if pairL p (extL p sq) xs xs = 0 then 5 else if weightL p sq (outL p sq xs vs) = 0 then 5 else 0) else chkP p sq [vs] [xs]
def RInvertAt0 (p : Int) (sq xs vs : List Int) : List Int := if RInvertAt1 p sq xs vs = 0 then placeL p sq (outL p sq xs vs) else []
theorem placeL_len'' {p : Int} {sq xs : List Int} (h : xs.length = sq.length + 2) : (placeL p sq xs).length = sq.length := by
  unfold placeL
  rw [scaleL_len, List.length_take]; omega
theorem RInvertAt0_len (p : Int) (sq xs vs : List Int) (_ : sq.length ≤ 1048576) (_ : xs.length ≤ 1048576) (_ : vs.length ≤ 1048576) : (RInvertAt0 p sq xs vs).length ≤ 1048576 := by
  unfold RInvertAt0 placeL
  split
  · rw [scaleL_len, List.length_take]; omega
  · simp
theorem iInvertAt_c {p0 : Int} {x0 : Value} {sq0 : List Int} {x1 : Value} {xs1 : List Int} {x2 : Value} {xs2 : List Int} {w : World} (hx0 : Sl w x0 sq0) (hm0 : sq0.length ≤ 1048576) (hx1 : Sl w x1 xs1) (hm1 : xs1.length ≤ 1048576) (hx2 : Sl w x2 xs2) (hm2 : xs2.length ≤ 1048576) :
    Calls Try.prog 45 #[.agg #[.int .i64 p0, x0], x1, x2] w fun e w' => ∃ v0, e = .returned (.tuple #[v0, .int .i64 (RInvertAt1 p0 sq0 xs1 xs2)]) ∧ OwI w' w.heap.size v0 (RInvertAt0 p0 sq0 xs1 xs2) ∧ Below w.heap.size w w' := by
  obtain ⟨a0, c0, rfl, _⟩ := id hx0
  obtain ⟨a1, c1, rfl, _⟩ := id hx1
  obtain ⟨a2, c2, rfl, _⟩ := id hx2
  obtain ⟨W, hW⟩ : ∃ W, W = (((w.alloc (.cells #[.int .i64 p0, .slice a0 sq0.length c0] 28)).alloc (.cells #[.slice a2 xs2.length c2] 22)).alloc (.cells #[.slice a1 xs1.length c1] 22)) := ⟨_, rfl⟩
  have hbW : Below w.heap.size w W := by rw [hW]; exact (by repeat (first | exact Below.refl _ _ | apply blw_drew | apply blw_alloc | (refine blw_set ?_ (by first | omega | (simp; done) | (simp; omega)) _) | refine below_chain ?_ (by assumption)))
  have hx0 := hx0.below hbW
  have hx1 := hx1.below hbW
  have hx2 := hx2.below hbW
  have d00 : W.cell? ⟨w.heap.size, 0, none⟩ = some (.int .i64 p0) := by rw [hW]; simp [go_sem]
  have d01 : W.cell? ⟨w.heap.size, 1, none⟩ = some (.slice a0 sq0.length c0) := by rw [hW]; simp [go_sem]
  have glx : Rl W (.slice (some ⟨w.heap.size + 1, 0, none⟩) 1 1) [xs2] := Rl.one hx2 (by rw [hW]; simp [go_sem])
  have gly : Rl W (.slice (some ⟨w.heap.size + 1 + 1, 0, none⟩) 1 1) [xs1] := Rl.one hx1 (by rw [hW]; simp [go_sem])
  have hcon := chkpl_c (p := p0) hx0 glx gly hm0 (by simp) (by simpa using hm2) (by simp) (by simpa using hm1)
  rw [hW] at hcon
  by_cases h0 : chkP p0 sq0 [xs2] [xs1] = 0
  · rw [h0] at hcon
    obtain ⟨h1, h2, h3, h4⟩ := chkP_pos h0
    have hv := h4 xs1 (by simp)
    have hv2 := h3 xs2 (by simp)
    have H0 := Lib.hid h0
    have he := extL_sp h1 (by omega)
    clear h0 h3 h4
    obtain ⟨hp, n1, n2, hf⟩ := isSp_iff.1 h1
    have hp1 := hp.lo
    have hp2 := hp.hi
    have hvp : isV p0 (extL p0 sq0) (pointL p0 sq0 xs2) = true := isV_iff.2 ⟨by rw [pointL_len (isV_iff.1 hv2).1, extL_len], pointL_fp (by omega)⟩
    have hvo : isV p0 (extL p0 sq0) (outL p0 sq0 xs1 xs2) = true := isV_iff.2 ⟨by unfold outL; rw [reflL_len (by rw [(isV_iff.1 hv).1, (isV_iff.1 hvp).1]), (isV_iff.1 hvp).1], reflL_fp (by omega)⟩
    have L1 := Lib.hid (placeL_len'' (p := p0) (sq := sq0) (xs := outL p0 sq0 xs1 xs2) (by rw [(isV_iff.1 hvo).1, extL_len]))
    have L2 := Lib.hid (show (finL p0 sq0 (outL p0 sq0 xs1 xs2)).length = sq0.length + 2 by unfold finL; rw [scaleL_len, (isV_iff.1 hvo).1, extL_len])
    have hpf := Lib.hid (place_fin (p := p0) (sq := sq0) (x := outL p0 sq0 xs1 xs2))
    have LX := Lib.hid (isV_iff.1 hv).1
    have LP := Lib.hid (isV_iff.1 hvp).1
    have LE := Lib.hid (extL_len (p := p0) (sq := sq0))
    have bx : xs1.length ≤ 6 := by rw [LX.out, LE.out]; omega
    have fx := (isV_iff.1 hv).2
    have hN := pairL_fp (p := p0) (sq := extL p0 sq0) (v := xs1) (w := xs1) (by omega)
    have hno : pairL p0 (extL p0 sq0) xs1 xs1 = 0 → RInvertAt1 p0 sq0 xs1 xs2 = 5 ∧ RInvertAt0 p0 sq0 xs1 xs2 = [] := fun h => by
      have e : RInvertAt1 p0 sq0 xs1 xs2 = 5 := by unfold RInvertAt1; rw [if_pos H0.out, if_pos h]
      exact ⟨e, by unfold RInvertAt0; rw [e]; rfl⟩
    have hnw : pairL p0 (extL p0 sq0) xs1 xs1 ≠ 0 → weightL p0 sq0 (outL p0 sq0 xs1 xs2) = 0 → RInvertAt1 p0 sq0 xs1 xs2 = 5 ∧ RInvertAt0 p0 sq0 xs1 xs2 = [] := fun h h' => by
      have e : RInvertAt1 p0 sq0 xs1 xs2 = 5 := by unfold RInvertAt1; rw [if_pos H0.out, if_neg h, if_pos h']
      exact ⟨e, by unfold RInvertAt0; rw [e]; rfl⟩
    have hyes : pairL p0 (extL p0 sq0) xs1 xs1 ≠ 0 → weightL p0 sq0 (outL p0 sq0 xs1 xs2) ≠ 0 → RInvertAt1 p0 sq0 xs1 xs2 = 0 ∧ RInvertAt0 p0 sq0 xs1 xs2 = placeL p0 sq0 (outL p0 sq0 xs1 xs2) := fun h h' => by
      have e : RInvertAt1 p0 sq0 xs1 xs2 = 0 := by unfold RInvertAt1; rw [if_pos H0.out, if_neg h, if_neg h']
      exact ⟨e, by unfold RInvertAt0; rw [e]; rfl⟩
    have h3 : pairL p0 (extL p0 sq0) xs1 xs1 = 0 ∨ (pairL p0 (extL p0 sq0) xs1 xs1 ≠ 0 ∧ weightL p0 sq0 (outL p0 sq0 xs1 xs2) = 0) ∨ (pairL p0 (extL p0 sq0) xs1 xs1 ≠ 0 ∧ weightL p0 sq0 (outL p0 sq0 xs1 xs2) ≠ 0) := by by_cases a : pairL p0 (extL p0 sq0) xs1 xs1 = 0 <;> by_cases b : weightL p0 sq0 (outL p0 sq0 xs1 xs2) = 0 <;> simp [a, b]
    obtain ⟨N, hNe⟩ : ∃ N, N = pairL p0 (extL p0 sq0) xs1 xs1 := ⟨_, rfl⟩
    rw [← hNe] at hN
    simp only [← hNe] at hno hnw hyes h3
    have HN := Lib.hid hNe
    clear hNe
    rcases h3 with hz | ⟨hz, hw⟩ | ⟨hz, hw⟩
    · skip
      obtain ⟨e1, e0⟩ := hno hz
      rw [e0, e1]
      subst hz
      clear hno hnw hyes e0 e1
      go_enter Try.func45, Try.ntmps45
      go_wp2_with fail
      refine hcon.mono ?_; rintro e w1 ⟨rfl, hb1⟩
      rw [← hW] at hb1
      clear hW hcon
      have d00 := kept hb1 d00; have d01 := kept hb1 d01; have hx0 := hx0.below hb1; have hx1 := hx1.below hb1; have hx2 := hx2.below hb1
      go_wp2_with fail
      refine (ext_c hx0 h1).mono ?_; rintro e w22 ⟨y, rfl, ⟨g, cap, rfl, hy⟩, hb22⟩
      have d00 := kept hb22 d00; have d01 := kept hb22 d01; have hx0 := hx0.below hb22; have hx1 := hx1.below hb22; have hx2 := hx2.below hb22
      have hb23 : Below w22.heap.size w22 (w22.alloc (.cells #[.int .i64 p0, .slice (some ⟨g, 0, none⟩) (extL p0 sq0).length cap] 28)) := (by repeat (first | exact Below.refl _ _ | apply blw_drew | apply blw_alloc | (refine blw_set ?_ (by first | omega | (simp; done) | (simp; omega)) _) | refine below_chain ?_ (by assumption)))
      have d00 := kept hb23 d00; have d01 := kept hb23 d01; have hx0 := hx0.below hb23; have hx1 := hx1.below hb23; have hx2 := hx2.below hb23; have hy := hy.below hb23
      have e0 : (w22.alloc (.cells #[.int .i64 p0, .slice (some ⟨g, 0, none⟩) (extL p0 sq0).length cap] 28)).cell? ⟨w22.heap.size, 0, none⟩ = some (.int .i64 p0) := by simp [go_sem]
      have e1 : (w22.alloc (.cells #[.int .i64 p0, .slice (some ⟨g, 0, none⟩) (extL p0 sq0).length cap] 28)).cell? ⟨w22.heap.size, 1, none⟩ = some (.slice (some ⟨g, 0, none⟩) (extL p0 sq0).length cap) := by simp [go_sem]
      go_wp2_with fail
      refine (norm_c (by omega) (by omega) hy.sl hx1 ((extL_fp hp1 hf).sm (by omega) (by omega)) (fx.sm (by omega) (by omega)) LX.out.symm (by rw [LE.out]; omega) (by omega)).mono ?_; rintro e w24 ⟨rfl, hb24⟩
      have d00 := kept hb24 d00; have d01 := kept hb24 d01; have hx0 := hx0.below hb24; have hx1 := hx1.below hb24; have hx2 := hx2.below hb24; have hy := hy.below hb24; have e0 := kept hb24 e0; have e1 := kept hb24 e1
      rw [← HN.out]
      go_wp2_with fail
      go_ret2
      exact ⟨_, rfl, .inl ⟨rfl, rfl⟩, (by repeat (first | exact Below.refl _ _ | apply blw_drew | apply blw_alloc | (refine blw_set ?_ (by first | omega | (simp; done) | (simp; omega)) _) | refine below_chain ?_ (by assumption)))⟩
    · skip
      obtain ⟨e1, e0⟩ := hnw hz hw
      rw [e0, e1]
      have hb : (weightL p0 sq0 (outL p0 sq0 xs1 xs2) != 0) = false := by simp [hw]
      have HW := Lib.hid hw
      have hz1 : 1 ≤ N := by omega
      clear hno hnw hyes e0 e1 hw hz
      go_enter Try.func45, Try.ntmps45
      go_wp2_with fail
      refine hcon.mono ?_; rintro e w1 ⟨rfl, hb1⟩
      rw [← hW] at hb1
      clear hW hcon
      have d00 := kept hb1 d00; have d01 := kept hb1 d01; have hx0 := hx0.below hb1; have hx1 := hx1.below hb1; have hx2 := hx2.below hb1
      go_wp2_with fail
      refine (ext_c hx0 h1).mono ?_; rintro e w22 ⟨y, rfl, ⟨g, cap, rfl, hy⟩, hb22⟩
      have d00 := kept hb22 d00; have d01 := kept hb22 d01; have hx0 := hx0.below hb22; have hx1 := hx1.below hb22; have hx2 := hx2.below hb22
      have hb23 : Below w22.heap.size w22 (w22.alloc (.cells #[.int .i64 p0, .slice (some ⟨g, 0, none⟩) (extL p0 sq0).length cap] 28)) := (by repeat (first | exact Below.refl _ _ | apply blw_drew | apply blw_alloc | (refine blw_set ?_ (by first | omega | (simp; done) | (simp; omega)) _) | refine below_chain ?_ (by assumption)))
      have d00 := kept hb23 d00; have d01 := kept hb23 d01; have hx0 := hx0.below hb23; have hx1 := hx1.below hb23; have hx2 := hx2.below hb23; have hy := hy.below hb23
      have e0 : (w22.alloc (.cells #[.int .i64 p0, .slice (some ⟨g, 0, none⟩) (extL p0 sq0).length cap] 28)).cell? ⟨w22.heap.size, 0, none⟩ = some (.int .i64 p0) := by simp [go_sem]
      have e1 : (w22.alloc (.cells #[.int .i64 p0, .slice (some ⟨g, 0, none⟩) (extL p0 sq0).length cap] 28)).cell? ⟨w22.heap.size, 1, none⟩ = some (.slice (some ⟨g, 0, none⟩) (extL p0 sq0).length cap) := by simp [go_sem]
      go_wp2_with fail
      refine (norm_c (by omega) (by omega) hy.sl hx1 ((extL_fp hp1 hf).sm (by omega) (by omega)) (fx.sm (by omega) (by omega)) LX.out.symm (by rw [LE.out]; omega) (by omega)).mono ?_; rintro e w24 ⟨rfl, hb24⟩
      have d00 := kept hb24 d00; have d01 := kept hb24 d01; have hx0 := hx0.below hb24; have hx1 := hx1.below hb24; have hx2 := hx2.below hb24; have hy := hy.below hb24; have e0 := kept hb24 e0; have e1 := kept hb24 e1
      rw [← HN.out]
      go_wp2_with fail
      refine region_flow [(false, [(0, 1), (1, 1), (2, 0), (3, 1), (4, 0), (5, 5)]), (false, [(6, 5)]), (false, [(7, 4), (8, 0), (9, 0), (10, 0), (11, 0), (12, 0)])] (by kernel_rfl) ?_
      refine norm_K fun K hK => ?_
      change wpList _ _ _ [_, _, _, _, _, _] _ _
      have hb25 : Below w24.heap.size w24 w24.drew := (by repeat (first | exact Below.refl _ _ | apply blw_drew | apply blw_alloc | (refine blw_set ?_ (by first | omega | (simp; done) | (simp; omega)) _) | refine below_chain ?_ (by assumption)))
      have d00 := kept hb25 d00; have d01 := kept hb25 d01; have hx0 := hx0.below hb25; have hx1 := hx1.below hb25; have hx2 := hx2.below hb25; have hy := hy.below hb25; have e0 := kept hb25 e0; have e1 := kept hb25 e1
      go_wp2_with fail
      refine (point_c h1 hx0 hx2 hv2).mono ?_; rintro e w26 ⟨z, rfl, hz2, hb26⟩
      have d00 := kept hb26 d00; have d01 := kept hb26 d01; have hx0 := hx0.below hb26; have hx1 := hx1.below hb26; have hx2 := hx2.below hb26; have hy := hy.below hb26; have e0 := kept hb26 e0; have e1 := kept hb26 e1
      go_wp2_with fail
      have hz0 : Below w24.drew.heap.size w24.drew w26 := (by repeat (first | exact Below.refl _ _ | apply blw_drew | apply blw_alloc | (refine blw_set ?_ (by first | omega | (simp; done) | (simp; omega)) _) | refine below_chain ?_ (by assumption)))
      first | (refine hK _ _ ⟨hz0, ?_⟩; clear hK K) | refine ⟨hz0, ?_⟩
      clear hz0
      refine norm_K fun K hK => ?_
      change wpList _ _ _ [_] _ _
      go_wp2_with fail
      refine (refl_c he hy.sl hx1 hz2.sl hv hvp).mono ?_; rintro e w27 ⟨u, rfl, hu, hb27⟩
      have d00 := kept hb27 d00; have d01 := kept hb27 d01; have hx0 := hx0.below hb27; have hx1 := hx1.below hb27; have hx2 := hx2.below hb27; have hy := hy.below hb27; have e0 := kept hb27 e0; have e1 := kept hb27 e1; have hz2 := hz2.below hb27
      go_wp2_with fail
      have hz1 : Below w24.drew.heap.size w24.drew w27 := (by repeat (first | exact Below.refl _ _ | apply blw_drew | apply blw_alloc | (refine blw_set ?_ (by first | omega | (simp; done) | (simp; omega)) _) | refine below_chain ?_ (by assumption)))
      first | (refine hK _ _ ⟨hz1, ?_⟩; clear hK K) | refine ⟨hz1, ?_⟩
      clear hz1
      refine norm_K fun K hK => ?_
      change wpList _ _ _ [_, _, _, _, _, _] _ _
      go_wp2_with fail
      refine (finite_c h1 (by omega) hx0 hu.sl hvo).mono ?_; rintro e w28 ⟨v, rfl, hr1, hr2, hb28⟩
      have d00 := kept hb28 d00; have d01 := kept hb28 d01; have hx0 := hx0.below hb28; have hx1 := hx1.below hb28; have hx2 := hx2.below hb28; have hy := hy.below hb28; have e0 := kept hb28 e0; have e1 := kept hb28 e1; have hz2 := hz2.below hb28; have hu := hu.below hb28
      obtain rfl := hr2 HW.out
      rw [show (weightL p0 sq0 (reflL p0 (extL p0 sq0) xs1 (pointL p0 sq0 xs2)) != 0) = false from hb]
      clear hr1 hr2
      go_wp2_with fail
      first | (refine hK _ _ ⟨rfl, ?_⟩; clear hK K) | refine ⟨rfl, ?_⟩
      go_wp2_with fail
      go_ret2
      exact ⟨_, rfl, .inl ⟨rfl, rfl⟩, (by repeat (first | exact Below.refl _ _ | apply blw_drew | apply blw_alloc | (refine blw_set ?_ (by first | omega | (simp; done) | (simp; omega)) _) | refine below_chain ?_ (by assumption)))⟩
    · skip
      obtain ⟨e1, e0⟩ := hyes hz hw
      rw [e0, e1]
      have hb : (weightL p0 sq0 (outL p0 sq0 xs1 xs2) != 0) = true := by simpa using hw
      have hwd : (weightL p0 sq0 (outL p0 sq0 xs1 xs2) == 0) = false := by simpa using hw
      have HW := Lib.hid hw
      have hz1 : 1 ≤ N := by omega
      clear hno hnw hyes e0 e1 hw hz
      go_enter Try.func45, Try.ntmps45
      go_wp2_with fail
      refine hcon.mono ?_; rintro e w1 ⟨rfl, hb1⟩
      rw [← hW] at hb1
      clear hW hcon
      have d00 := kept hb1 d00; have d01 := kept hb1 d01; have hx0 := hx0.below hb1; have hx1 := hx1.below hb1; have hx2 := hx2.below hb1
      go_wp2_with fail
      refine (ext_c hx0 h1).mono ?_; rintro e w22 ⟨y, rfl, ⟨g, cap, rfl, hy⟩, hb22⟩
      have d00 := kept hb22 d00; have d01 := kept hb22 d01; have hx0 := hx0.below hb22; have hx1 := hx1.below hb22; have hx2 := hx2.below hb22
      have hb23 : Below w22.heap.size w22 (w22.alloc (.cells #[.int .i64 p0, .slice (some ⟨g, 0, none⟩) (extL p0 sq0).length cap] 28)) := (by repeat (first | exact Below.refl _ _ | apply blw_drew | apply blw_alloc | (refine blw_set ?_ (by first | omega | (simp; done) | (simp; omega)) _) | refine below_chain ?_ (by assumption)))
      have d00 := kept hb23 d00; have d01 := kept hb23 d01; have hx0 := hx0.below hb23; have hx1 := hx1.below hb23; have hx2 := hx2.below hb23; have hy := hy.below hb23
      have e0 : (w22.alloc (.cells #[.int .i64 p0, .slice (some ⟨g, 0, none⟩) (extL p0 sq0).length cap] 28)).cell? ⟨w22.heap.size, 0, none⟩ = some (.int .i64 p0) := by simp [go_sem]
      have e1 : (w22.alloc (.cells #[.int .i64 p0, .slice (some ⟨g, 0, none⟩) (extL p0 sq0).length cap] 28)).cell? ⟨w22.heap.size, 1, none⟩ = some (.slice (some ⟨g, 0, none⟩) (extL p0 sq0).length cap) := by simp [go_sem]
      go_wp2_with fail
      refine (norm_c (by omega) (by omega) hy.sl hx1 ((extL_fp hp1 hf).sm (by omega) (by omega)) (fx.sm (by omega) (by omega)) LX.out.symm (by rw [LE.out]; omega) (by omega)).mono ?_; rintro e w24 ⟨rfl, hb24⟩
      have d00 := kept hb24 d00; have d01 := kept hb24 d01; have hx0 := hx0.below hb24; have hx1 := hx1.below hb24; have hx2 := hx2.below hb24; have hy := hy.below hb24; have e0 := kept hb24 e0; have e1 := kept hb24 e1
      rw [← HN.out]
      go_wp2_with fail
      refine region_flow [(false, [(0, 1), (1, 1), (2, 0), (3, 1), (4, 0), (5, 5)]), (false, [(6, 5)]), (false, [(7, 4), (8, 0), (9, 0), (10, 0), (11, 0), (12, 0)])] (by kernel_rfl) ?_
      refine norm_K fun K hK => ?_
      change wpList _ _ _ [_, _, _, _, _, _] _ _
      have hb25 : Below w24.heap.size w24 w24.drew := (by repeat (first | exact Below.refl _ _ | apply blw_drew | apply blw_alloc | (refine blw_set ?_ (by first | omega | (simp; done) | (simp; omega)) _) | refine below_chain ?_ (by assumption)))
      have d00 := kept hb25 d00; have d01 := kept hb25 d01; have hx0 := hx0.below hb25; have hx1 := hx1.below hb25; have hx2 := hx2.below hb25; have hy := hy.below hb25; have e0 := kept hb25 e0; have e1 := kept hb25 e1
      go_wp2_with fail
      refine (point_c h1 hx0 hx2 hv2).mono ?_; rintro e w26 ⟨z, rfl, hz2, hb26⟩
      have d00 := kept hb26 d00; have d01 := kept hb26 d01; have hx0 := hx0.below hb26; have hx1 := hx1.below hb26; have hx2 := hx2.below hb26; have hy := hy.below hb26; have e0 := kept hb26 e0; have e1 := kept hb26 e1
      go_wp2_with fail
      have hz0 : Below w24.drew.heap.size w24.drew w26 := (by repeat (first | exact Below.refl _ _ | apply blw_drew | apply blw_alloc | (refine blw_set ?_ (by first | omega | (simp; done) | (simp; omega)) _) | refine below_chain ?_ (by assumption)))
      first | (refine hK _ _ ⟨hz0, ?_⟩; clear hK K) | refine ⟨hz0, ?_⟩
      clear hz0
      refine norm_K fun K hK => ?_
      change wpList _ _ _ [_] _ _
      go_wp2_with fail
      refine (refl_c he hy.sl hx1 hz2.sl hv hvp).mono ?_; rintro e w27 ⟨u, rfl, hu, hb27⟩
      have d00 := kept hb27 d00; have d01 := kept hb27 d01; have hx0 := hx0.below hb27; have hx1 := hx1.below hb27; have hx2 := hx2.below hb27; have hy := hy.below hb27; have e0 := kept hb27 e0; have e1 := kept hb27 e1; have hz2 := hz2.below hb27
      go_wp2_with fail
      have hz1 : Below w24.drew.heap.size w24.drew w27 := (by repeat (first | exact Below.refl _ _ | apply blw_drew | apply blw_alloc | (refine blw_set ?_ (by first | omega | (simp; done) | (simp; omega)) _) | refine below_chain ?_ (by assumption)))
      first | (refine hK _ _ ⟨hz1, ?_⟩; clear hK K) | refine ⟨hz1, ?_⟩
      clear hz1
      refine norm_K fun K hK => ?_
      change wpList _ _ _ [_, _, _, _, _, _] _ _
      go_wp2_with fail
      refine (finite_c h1 (by omega) hx0 hu.sl hvo).mono ?_; rintro e w28 ⟨v, rfl, hr1, hr2, hb28⟩
      have d00 := kept hb28 d00; have d01 := kept hb28 d01; have hx0 := hx0.below hb28; have hx1 := hx1.below hb28; have hx2 := hx2.below hb28; have hy := hy.below hb28; have e0 := kept hb28 e0; have e1 := kept hb28 e1; have hz2 := hz2.below hb28; have hu := hu.below hb28
      obtain ⟨g2, cap2, rfl, ho⟩ := hr1 HW.out
      rw [show (weightL p0 sq0 (reflL p0 (extL p0 sq0) xs1 (pointL p0 sq0 xs2)) != 0) = true from hb]
      change OwnI _ _ _ (finL p0 sq0 (outL p0 sq0 xs1 xs2)).length _ (finL p0 sq0 (outL p0 sq0 xs1 xs2)) at ho
      have hcap := ho.caps
      rw [L2.out] at hcap
      simp only [maxLen] at hcap
      rw [show (finL p0 sq0 (reflL p0 (extL p0 sq0) xs1 (pointL p0 sq0 xs2))).length = sq0.length + 2 from L2.out]
      clear hr1 hr2
      go_wp2_with fail
      first | (refine hK _ _ ⟨rfl, ?_⟩; clear hK K) | refine ⟨rfl, ?_⟩
      go_wp2_with fail
      refine region_flow [(false, [(0, 0), (1, 1), (3, 1), (2, 5)]), (false, [(4, 4), (5, 0), (6, 0), (7, 0)])] (by kernel_rfl) ?_
      refine norm_K fun K hK => ?_
      change wpList _ _ _ [_, _, _, _] _ _
      have hb29 : Below w28.heap.size w28 w28.drew := (by repeat (first | exact Below.refl _ _ | apply blw_drew | apply blw_alloc | (refine blw_set ?_ (by first | omega | (simp; done) | (simp; omega)) _) | refine below_chain ?_ (by assumption)))
      have d00 := kept hb29 d00; have d01 := kept hb29 d01; have hx0 := hx0.below hb29; have hx1 := hx1.below hb29; have hx2 := hx2.below hb29; have hy := hy.below hb29; have e0 := kept hb29 e0; have e1 := kept hb29 e1; have hz2 := hz2.below hb29; have hu := hu.below hb29; have ho := ho.below hb29
      go_wp2_with fail
      refine (dim_c).mono ?_; rintro e w30 ⟨rfl, hb30⟩
      have d00 := kept hb30 d00; have d01 := kept hb30 d01; have hx0 := hx0.below hb30; have hx1 := hx1.below hb30; have hx2 := hx2.below hb30; have hy := hy.below hb30; have e0 := kept hb30 e0; have e1 := kept hb30 e1; have hz2 := hz2.below hb30; have hu := hu.below hb30; have ho := ho.below hb30
      go_wp2_with fail
      have hz0 : Below w28.drew.heap.size w28.drew w30 := (by repeat (first | exact Below.refl _ _ | apply blw_drew | apply blw_alloc | (refine blw_set ?_ (by first | omega | (simp; done) | (simp; omega)) _) | refine below_chain ?_ (by assumption)))
      first | (refine hK _ _ ⟨hz0, ?_⟩; clear hK K) | refine ⟨hz0, ?_⟩
      clear hz0
      refine norm_K fun K hK => ?_
      change wpList _ _ _ [_, _, _, _] _ _
      go_wp2_with fail
      refine (dim_c).mono ?_; rintro e w31 ⟨rfl, hb31⟩
      have d00 := kept hb31 d00; have d01 := kept hb31 d01; have hx0 := hx0.below hb31; have hx1 := hx1.below hb31; have hx2 := hx2.below hb31; have hy := hy.below hb31; have e0 := kept hb31 e0; have e1 := kept hb31 e1; have hz2 := hz2.below hb31; have hu := hu.below hb31; have ho := ho.below hb31
      go_wp2_with fail
      first | (refine hK _ _ ⟨rfl, ?_⟩; clear hK K) | refine ⟨rfl, ?_⟩
      go_wp2_with fail
      go_ret2
      have hf2 := ho.first (k := sq0.length) (by rw [L2.out]; omega)
      rw [← hpf.out] at hf2
      refine ⟨_, rfl, .inr ⟨g2, sq0.length, cap2, by rw [L1.out]; rfl, ?_⟩, (by repeat (first | exact Below.refl _ _ | apply blw_drew | apply blw_alloc | (refine blw_set ?_ (by first | omega | (simp; done) | (simp; omega)) _) | refine below_chain ?_ (by assumption)))⟩
      rw [L1.out]
      exact hf2.rebase (Nat.le_trans (below_le (by repeat (first | exact Below.refl _ _ | apply blw_drew | apply blw_alloc | (refine blw_set ?_ (by first | omega | (simp; done) | (simp; omega)) _) | refine below_chain ?_ (by assumption)))) hf2.lt.1)
  · have e1 : RInvertAt1 p0 sq0 xs1 xs2 = chkP p0 sq0 [xs2] [xs1] := by unfold RInvertAt1; rw [if_neg h0]
    rw [show RInvertAt0 p0 sq0 xs1 xs2 = [] by unfold RInvertAt0; rw [e1, if_neg h0], e1]
    clear e1
    obtain ⟨k, hk⟩ : ∃ k, k = chkP p0 sq0 [xs2] [xs1] := ⟨_, rfl⟩
    rw [← hk] at h0 hcon ⊢
    clear hk
    have hne : (k == 0) = false := by simpa using h0
    go_enter Try.func45, Try.ntmps45
    go_wp2_with fail
    refine hcon.mono ?_; rintro e w1 ⟨rfl, hb1⟩
    rw [← hW] at hb1
    clear hW hcon
    go_wp2_with fail
    go_ret2
    exact ⟨_, rfl, .inl ⟨rfl, rfl⟩, (by repeat (first | exact Below.refl _ _ | apply blw_drew | apply blw_alloc | (refine blw_set ?_ (by first | omega | (simp; done) | (simp; omega)) _) | refine below_chain ?_ (by assumption)))⟩
theorem sInvertAt_c {p0 : Int} {x0 : Value} {sq0 : List Int} {x1 : Value} {xs1 : List Int} {x2 : Value} {xs2 : List Int} {w : World} (hx0 : Sl w x0 sq0) (hm0 : sq0.length ≤ 1048576) (hx1 : Sl w x1 xs1) (hm1 : xs1.length ≤ 1048576) (hx2 : Sl w x2 xs2) (hm2 : xs2.length ≤ 1048576) :
    Calls Try.prog 44 #[.agg #[.int .i64 p0, x0], x1, x2] w fun e w' => ∃ v0, e = .returned (.tuple #[v0, .int .i64 (RInvertAt1 p0 sq0 xs1 xs2)]) ∧ OwI w' w.heap.size v0 (RInvertAt0 p0 sq0 xs1 xs2) ∧ Below w.heap.size w w' := by
  obtain ⟨a0, c0, rfl, _⟩ := id hx0
  obtain ⟨a1, c1, rfl, _⟩ := id hx1
  obtain ⟨a2, c2, rfl, _⟩ := id hx2
  obtain ⟨W, hW⟩ : ∃ W, W = ((w.alloc (.cells #[.int .i64 p0, .slice a0 sq0.length c0] 28)).alloc (.cells #[.slice a2 xs2.length c2] 22)) := ⟨_, rfl⟩
  have hbW : Below w.heap.size w W := by rw [hW]; exact (by repeat (first | exact Below.refl _ _ | apply blw_drew | apply blw_alloc | (refine blw_set ?_ (by first | omega | (simp; done) | (simp; omega)) _) | refine below_chain ?_ (by assumption)))
  have hx0 := hx0.below hbW
  have hx1 := hx1.below hbW
  have hx2 := hx2.below hbW
  have d00 : W.cell? ⟨w.heap.size, 0, none⟩ = some (.int .i64 p0) := by rw [hW]; simp [go_sem]
  have d01 : W.cell? ⟨w.heap.size, 1, none⟩ = some (.slice a0 sq0.length c0) := by rw [hW]; simp [go_sem]
  have glx : Rl W (.slice (some ⟨w.heap.size + 1, 0, none⟩) 1 1) [xs2] := Rl.one hx2 (by rw [hW]; simp [go_sem])
  have hcon := smore_c (p0 := p0) hx0 hx1 glx hm0 hm1 (by simp) (by simpa using hm2)
  rw [hW] at hcon
  by_cases h0 : chkP p0 sq0 [xs2] [xs1] = 0
  · rw [h0] at hcon
    obtain ⟨h1, h2, h3, h4⟩ := chkP_pos h0
    have hv := h4 xs1 (by simp)
    have hv2 := h3 xs2 (by simp)
    have H0 := Lib.hid h0
    have he := extL_sp h1 (by omega)
    clear h0 h3 h4
    obtain ⟨hp, n1, n2, hf⟩ := isSp_iff.1 h1
    have hp1 := hp.lo
    have hp2 := hp.hi
    have hvp : isV p0 (extL p0 sq0) (pointL p0 sq0 xs2) = true := isV_iff.2 ⟨by rw [pointL_len (isV_iff.1 hv2).1, extL_len], pointL_fp (by omega)⟩
    have hvo : isV p0 (extL p0 sq0) (outL p0 sq0 xs1 xs2) = true := isV_iff.2 ⟨by unfold outL; rw [reflL_len (by rw [(isV_iff.1 hv).1, (isV_iff.1 hvp).1]), (isV_iff.1 hvp).1], reflL_fp (by omega)⟩
    have L1 := Lib.hid (placeL_len'' (p := p0) (sq := sq0) (xs := outL p0 sq0 xs1 xs2) (by rw [(isV_iff.1 hvo).1, extL_len]))
    have L2 := Lib.hid (show (finL p0 sq0 (outL p0 sq0 xs1 xs2)).length = sq0.length + 2 by unfold finL; rw [scaleL_len, (isV_iff.1 hvo).1, extL_len])
    have hpf := Lib.hid (place_fin (p := p0) (sq := sq0) (x := outL p0 sq0 xs1 xs2))
    have LX := Lib.hid (isV_iff.1 hv).1
    have LP := Lib.hid (isV_iff.1 hvp).1
    have LE := Lib.hid (extL_len (p := p0) (sq := sq0))
    have bx : xs1.length ≤ 6 := by rw [LX.out, LE.out]; omega
    have fx := (isV_iff.1 hv).2
    have hN := pairL_fp (p := p0) (sq := extL p0 sq0) (v := xs1) (w := xs1) (by omega)
    have hno : pairL p0 (extL p0 sq0) xs1 xs1 = 0 → RInvertAt1 p0 sq0 xs1 xs2 = 5 ∧ RInvertAt0 p0 sq0 xs1 xs2 = [] := fun h => by
      have e : RInvertAt1 p0 sq0 xs1 xs2 = 5 := by unfold RInvertAt1; rw [if_pos H0.out, if_pos h]
      exact ⟨e, by unfold RInvertAt0; rw [e]; rfl⟩
    have hnw : pairL p0 (extL p0 sq0) xs1 xs1 ≠ 0 → weightL p0 sq0 (outL p0 sq0 xs1 xs2) = 0 → RInvertAt1 p0 sq0 xs1 xs2 = 5 ∧ RInvertAt0 p0 sq0 xs1 xs2 = [] := fun h h' => by
      have e : RInvertAt1 p0 sq0 xs1 xs2 = 5 := by unfold RInvertAt1; rw [if_pos H0.out, if_neg h, if_pos h']
      exact ⟨e, by unfold RInvertAt0; rw [e]; rfl⟩
    have hyes : pairL p0 (extL p0 sq0) xs1 xs1 ≠ 0 → weightL p0 sq0 (outL p0 sq0 xs1 xs2) ≠ 0 → RInvertAt1 p0 sq0 xs1 xs2 = 0 ∧ RInvertAt0 p0 sq0 xs1 xs2 = placeL p0 sq0 (outL p0 sq0 xs1 xs2) := fun h h' => by
      have e : RInvertAt1 p0 sq0 xs1 xs2 = 0 := by unfold RInvertAt1; rw [if_pos H0.out, if_neg h, if_neg h']
      exact ⟨e, by unfold RInvertAt0; rw [e]; rfl⟩
    have h3 : pairL p0 (extL p0 sq0) xs1 xs1 = 0 ∨ (pairL p0 (extL p0 sq0) xs1 xs1 ≠ 0 ∧ weightL p0 sq0 (outL p0 sq0 xs1 xs2) = 0) ∨ (pairL p0 (extL p0 sq0) xs1 xs1 ≠ 0 ∧ weightL p0 sq0 (outL p0 sq0 xs1 xs2) ≠ 0) := by by_cases a : pairL p0 (extL p0 sq0) xs1 xs1 = 0 <;> by_cases b : weightL p0 sq0 (outL p0 sq0 xs1 xs2) = 0 <;> simp [a, b]
    obtain ⟨N, hNe⟩ : ∃ N, N = pairL p0 (extL p0 sq0) xs1 xs1 := ⟨_, rfl⟩
    rw [← hNe] at hN
    simp only [← hNe] at hno hnw hyes h3
    have HN := Lib.hid hNe
    clear hNe
    rcases h3 with hz | ⟨hz, hw⟩ | ⟨hz, hw⟩
    · skip
      obtain ⟨e1, e0⟩ := hno hz
      rw [e0, e1]
      have hpn := fun (W : World) (y : Value) (hy : Sl W y (extL p0 sq0)) (hx : Sl W (.slice a1 xs1.length c1) xs1) => spair_c (w := W) (by omega) hp2 hy hx hx (extL_fp hp1 hf) fx fx LX.out.symm rfl (by rw [LE.out]; omega) (by omega)
      simp only [← HN.out] at hpn
      have hq2 := pairL_fp (p := p0) (sq := extL p0 sq0) (v := pointL p0 sq0 xs2) (w := xs1) (by omega)
      have hi := invL_fp (p := p0) (a := N) (by omega)
      have hm2' := mulb (A := 26) (B := 13) (k := 2 * pairL p0 (extL p0 sq0) (pointL p0 sq0 xs2) xs1) (y := invL p0 N) (by omega) (by omega) (by omega) (by omega)
      have hkk := mod_fp (p := p0) (x := 2 * pairL p0 (extL p0 sq0) (pointL p0 sq0 xs2) xs1 * invL p0 N) (by omega)
      subst hz
      clear hno hnw hyes e0 e1
      go_enter Try.func44, Try.ntmps44
      go_wp2_with fail
      refine hcon.mono ?_; rintro e w1 ⟨rfl, hb1⟩
      rw [← hW] at hb1
      clear hW hcon
      have d00 := kept hb1 d00; have d01 := kept hb1 d01; have hx0 := hx0.below hb1; have hx1 := hx1.below hb1; have hx2 := hx2.below hb1
      go_wp2_with fail
      refine (sext_c hx0 h1).mono ?_; rintro e w22 ⟨y, rfl, ⟨g, cap, rfl, hy⟩, hb22⟩
      have d00 := kept hb22 d00; have d01 := kept hb22 d01; have hx0 := hx0.below hb22; have hx1 := hx1.below hb22; have hx2 := hx2.below hb22
      have hb23 : Below w22.heap.size w22 (w22.alloc (.cells #[.int .i64 p0, .slice (some ⟨g, 0, none⟩) (extL p0 sq0).length cap] 28)) := (by repeat (first | exact Below.refl _ _ | apply blw_drew | apply blw_alloc | (refine blw_set ?_ (by first | omega | (simp; done) | (simp; omega)) _) | refine below_chain ?_ (by assumption)))
      have d00 := kept hb23 d00; have d01 := kept hb23 d01; have hx0 := hx0.below hb23; have hx1 := hx1.below hb23; have hx2 := hx2.below hb23; have hy := hy.below hb23
      have e0 : (w22.alloc (.cells #[.int .i64 p0, .slice (some ⟨g, 0, none⟩) (extL p0 sq0).length cap] 28)).cell? ⟨w22.heap.size, 0, none⟩ = some (.int .i64 p0) := by simp [go_sem]
      have e1 : (w22.alloc (.cells #[.int .i64 p0, .slice (some ⟨g, 0, none⟩) (extL p0 sq0).length cap] 28)).cell? ⟨w22.heap.size, 1, none⟩ = some (.slice (some ⟨g, 0, none⟩) (extL p0 sq0).length cap) := by simp [go_sem]
      go_wp2_with fail
      refine region_flow [(false, [(0, 1), (1, 0), (2, 0), (4, 1), (5, 0), (3, 5)]), (false, [(6, 4), (7, 0), (8, 0)])] (by kernel_rfl) ?_
      refine norm_K fun K hK => ?_
      change wpList _ _ _ [_, _, _, _, _, _] _ _
      have hb24 : Below (w22.alloc (.cells #[.int .i64 p0, .slice (some ⟨g, 0, none⟩) (extL p0 sq0).length cap] 28)).heap.size (w22.alloc (.cells #[.int .i64 p0, .slice (some ⟨g, 0, none⟩) (extL p0 sq0).length cap] 28)) (w22.alloc (.cells #[.int .i64 p0, .slice (some ⟨g, 0, none⟩) (extL p0 sq0).length cap] 28)).drew := (by repeat (first | exact Below.refl _ _ | apply blw_drew | apply blw_alloc | (refine blw_set ?_ (by first | omega | (simp; done) | (simp; omega)) _) | refine below_chain ?_ (by assumption)))
      have d00 := kept hb24 d00; have d01 := kept hb24 d01; have hx0 := hx0.below hb24; have hx1 := hx1.below hb24; have hx2 := hx2.below hb24; have hy := hy.below hb24; have e0 := kept hb24 e0; have e1 := kept hb24 e1
      go_wp2_with fail
      refine (hpn _ _ hy.sl hx1).mono ?_; rintro e w25 ⟨rfl, hb25⟩
      have d00 := kept hb25 d00; have d01 := kept hb25 d01; have hx0 := hx0.below hb25; have hx1 := hx1.below hb25; have hx2 := hx2.below hb25; have hy := hy.below hb25; have e0 := kept hb25 e0; have e1 := kept hb25 e1
      go_wp2_with fail
      have hz0 : Below (w22.alloc (.cells #[.int .i64 p0, .slice (some ⟨g, 0, none⟩) (extL p0 sq0).length cap] 28)).drew.heap.size (w22.alloc (.cells #[.int .i64 p0, .slice (some ⟨g, 0, none⟩) (extL p0 sq0).length cap] 28)).drew w25 := (by repeat (first | exact Below.refl _ _ | apply blw_drew | apply blw_alloc | (refine blw_set ?_ (by first | omega | (simp; done) | (simp; omega)) _) | refine below_chain ?_ (by assumption)))
      first | (refine hK _ _ ⟨hz0, ?_⟩; clear hK K) | refine ⟨hz0, ?_⟩
      clear hz0
      refine norm_K fun K hK => ?_
      change wpList _ _ _ [_, _, _] _ _
      go_wp2_with fail
      refine (spoint_c h1 hx0 hx2 hv2).mono ?_; rintro e w26 ⟨z, rfl, hz2, hb26⟩
      have d00 := kept hb26 d00; have d01 := kept hb26 d01; have hx0 := hx0.below hb26; have hx1 := hx1.below hb26; have hx2 := hx2.below hb26; have hy := hy.below hb26; have e0 := kept hb26 e0; have e1 := kept hb26 e1
      go_wp2_with fail
      first | (refine hK _ _ ⟨rfl, ?_⟩; clear hK K) | refine ⟨rfl, ?_⟩
      go_wp2_with fail
      go_ret2
      exact ⟨_, rfl, .inl ⟨rfl, rfl⟩, (by repeat (first | exact Below.refl _ _ | apply blw_drew | apply blw_alloc | (refine blw_set ?_ (by first | omega | (simp; done) | (simp; omega)) _) | refine below_chain ?_ (by assumption)))⟩
    · skip
      have hpn := fun (W : World) (y : Value) (hy : Sl W y (extL p0 sq0)) (hx : Sl W (.slice a1 xs1.length c1) xs1) => spair_c (w := W) (by omega) hp2 hy hx hx (extL_fp hp1 hf) fx fx LX.out.symm rfl (by rw [LE.out]; omega) (by omega)
      simp only [← HN.out] at hpn
      have hq2 := pairL_fp (p := p0) (sq := extL p0 sq0) (v := pointL p0 sq0 xs2) (w := xs1) (by omega)
      have hi := invL_fp (p := p0) (a := N) (by omega)
      have hm2' := mulb (A := 26) (B := 13) (k := 2 * pairL p0 (extL p0 sq0) (pointL p0 sq0 xs2) xs1) (y := invL p0 N) (by omega) (by omega) (by omega) (by omega)
      have hkk := mod_fp (p := p0) (x := 2 * pairL p0 (extL p0 sq0) (pointL p0 sq0 xs2) xs1 * invL p0 N) (by omega)
      obtain ⟨e1, e0⟩ := hnw hz hw
      rw [e0, e1]
      have hb : (weightL p0 sq0 (outL p0 sq0 xs1 xs2) != 0) = false := by simp [hw]
      have HW := Lib.hid hw
      have hz1 : 1 ≤ N := by omega
      clear hno hnw hyes e0 e1 hw hz
      go_enter Try.func44, Try.ntmps44
      go_wp2_with fail
      refine hcon.mono ?_; rintro e w1 ⟨rfl, hb1⟩
      rw [← hW] at hb1
      clear hW hcon
      have d00 := kept hb1 d00; have d01 := kept hb1 d01; have hx0 := hx0.below hb1; have hx1 := hx1.below hb1; have hx2 := hx2.below hb1
      go_wp2_with fail
      refine (sext_c hx0 h1).mono ?_; rintro e w22 ⟨y, rfl, ⟨g, cap, rfl, hy⟩, hb22⟩
      have d00 := kept hb22 d00; have d01 := kept hb22 d01; have hx0 := hx0.below hb22; have hx1 := hx1.below hb22; have hx2 := hx2.below hb22
      have hb23 : Below w22.heap.size w22 (w22.alloc (.cells #[.int .i64 p0, .slice (some ⟨g, 0, none⟩) (extL p0 sq0).length cap] 28)) := (by repeat (first | exact Below.refl _ _ | apply blw_drew | apply blw_alloc | (refine blw_set ?_ (by first | omega | (simp; done) | (simp; omega)) _) | refine below_chain ?_ (by assumption)))
      have d00 := kept hb23 d00; have d01 := kept hb23 d01; have hx0 := hx0.below hb23; have hx1 := hx1.below hb23; have hx2 := hx2.below hb23; have hy := hy.below hb23
      have e0 : (w22.alloc (.cells #[.int .i64 p0, .slice (some ⟨g, 0, none⟩) (extL p0 sq0).length cap] 28)).cell? ⟨w22.heap.size, 0, none⟩ = some (.int .i64 p0) := by simp [go_sem]
      have e1 : (w22.alloc (.cells #[.int .i64 p0, .slice (some ⟨g, 0, none⟩) (extL p0 sq0).length cap] 28)).cell? ⟨w22.heap.size, 1, none⟩ = some (.slice (some ⟨g, 0, none⟩) (extL p0 sq0).length cap) := by simp [go_sem]
      go_wp2_with fail
      refine region_flow [(false, [(0, 1), (1, 0), (2, 0), (4, 1), (5, 0), (3, 5)]), (false, [(6, 4), (7, 0), (8, 0)])] (by kernel_rfl) ?_
      refine norm_K fun K hK => ?_
      change wpList _ _ _ [_, _, _, _, _, _] _ _
      have hb24 : Below (w22.alloc (.cells #[.int .i64 p0, .slice (some ⟨g, 0, none⟩) (extL p0 sq0).length cap] 28)).heap.size (w22.alloc (.cells #[.int .i64 p0, .slice (some ⟨g, 0, none⟩) (extL p0 sq0).length cap] 28)) (w22.alloc (.cells #[.int .i64 p0, .slice (some ⟨g, 0, none⟩) (extL p0 sq0).length cap] 28)).drew := (by repeat (first | exact Below.refl _ _ | apply blw_drew | apply blw_alloc | (refine blw_set ?_ (by first | omega | (simp; done) | (simp; omega)) _) | refine below_chain ?_ (by assumption)))
      have d00 := kept hb24 d00; have d01 := kept hb24 d01; have hx0 := hx0.below hb24; have hx1 := hx1.below hb24; have hx2 := hx2.below hb24; have hy := hy.below hb24; have e0 := kept hb24 e0; have e1 := kept hb24 e1
      go_wp2_with fail
      refine (hpn _ _ hy.sl hx1).mono ?_; rintro e w25 ⟨rfl, hb25⟩
      have d00 := kept hb25 d00; have d01 := kept hb25 d01; have hx0 := hx0.below hb25; have hx1 := hx1.below hb25; have hx2 := hx2.below hb25; have hy := hy.below hb25; have e0 := kept hb25 e0; have e1 := kept hb25 e1
      go_wp2_with fail
      have hz0 : Below (w22.alloc (.cells #[.int .i64 p0, .slice (some ⟨g, 0, none⟩) (extL p0 sq0).length cap] 28)).drew.heap.size (w22.alloc (.cells #[.int .i64 p0, .slice (some ⟨g, 0, none⟩) (extL p0 sq0).length cap] 28)).drew w25 := (by repeat (first | exact Below.refl _ _ | apply blw_drew | apply blw_alloc | (refine blw_set ?_ (by first | omega | (simp; done) | (simp; omega)) _) | refine below_chain ?_ (by assumption)))
      first | (refine hK _ _ ⟨hz0, ?_⟩; clear hK K) | refine ⟨hz0, ?_⟩
      clear hz0
      refine norm_K fun K hK => ?_
      change wpList _ _ _ [_, _, _] _ _
      go_wp2_with fail
      refine (spoint_c h1 hx0 hx2 hv2).mono ?_; rintro e w26 ⟨z, rfl, hz2, hb26⟩
      have d00 := kept hb26 d00; have d01 := kept hb26 d01; have hx0 := hx0.below hb26; have hx1 := hx1.below hb26; have hx2 := hx2.below hb26; have hy := hy.below hb26; have e0 := kept hb26 e0; have e1 := kept hb26 e1
      go_wp2_with fail
      first | (refine hK _ _ ⟨rfl, ?_⟩; clear hK K) | refine ⟨rfl, ?_⟩
      go_wp2_with fail
      refine region_flow [(false, [(0, 0), (1, 1), (2, 1), (3, 0), (4, 0), (7, 0), (8, 1), (9, 0), (5, 5)]), (false, [(6, 0), (10, 5)]), (false, [(11, 0), (12, 4), (13, 0)])] (by kernel_rfl) ?_
      refine norm_K fun K hK => ?_
      change wpList _ _ _ [_, _, _, _, _, _, _, _, _] _ _
      have hb27 : Below w26.heap.size w26 w26.drew := (by repeat (first | exact Below.refl _ _ | apply blw_drew | apply blw_alloc | (refine blw_set ?_ (by first | omega | (simp; done) | (simp; omega)) _) | refine below_chain ?_ (by assumption)))
      have d00 := kept hb27 d00; have d01 := kept hb27 d01; have hx0 := hx0.below hb27; have hx1 := hx1.below hb27; have hx2 := hx2.below hb27; have hy := hy.below hb27; have e0 := kept hb27 e0; have e1 := kept hb27 e1; have hz2 := hz2.below hb27
      go_wp2_with fail
      refine (spair_c (by omega) hp2 hy.sl hz2.sl hx1 (extL_fp hp1 hf) (pointL_fp (by omega)) fx (by rw [LP.out]) (by rw [LX.out, LP.out]) (by rw [LE.out]; omega) (by rw [LP.out, LE.out]; omega)).mono ?_; rintro e w28 ⟨rfl, hb28⟩
      have d00 := kept hb28 d00; have d01 := kept hb28 d01; have hx0 := hx0.below hb28; have hx1 := hx1.below hb28; have hx2 := hx2.below hb28; have hy := hy.below hb28; have e0 := kept hb28 e0; have e1 := kept hb28 e1; have hz2 := hz2.below hb28
      go_wp2_with fail
      have hz0 : Below w26.drew.heap.size w26.drew w28 := (by repeat (first | exact Below.refl _ _ | apply blw_drew | apply blw_alloc | (refine blw_set ?_ (by first | omega | (simp; done) | (simp; omega)) _) | refine below_chain ?_ (by assumption)))
      first | (refine hK _ _ ⟨hz0, ?_⟩; clear hK K) | refine ⟨hz0, ?_⟩
      clear hz0
      refine norm_K fun K hK => ?_
      change wpList _ _ _ [_, _] _ _
      go_wp2_with fail
      refine (sinv_c hp hz1 hN.2).mono ?_; rintro e w29 ⟨rfl, rfl⟩
      go_wp2_with fail
      have hz1 : Below w26.drew.heap.size w26.drew w28 := (by repeat (first | exact Below.refl _ _ | apply blw_drew | apply blw_alloc | (refine blw_set ?_ (by first | omega | (simp; done) | (simp; omega)) _) | refine below_chain ?_ (by assumption)))
      first | (refine hK _ _ ⟨hz1, ?_⟩; clear hK K) | refine ⟨hz1, ?_⟩
      clear hz1
      refine norm_K fun K hK => ?_
      change wpList _ _ _ [_, _, _] _ _
      go_wp2_with fail
      refine (smod_c (by omega) (by omega)).mono ?_; rintro e w30 ⟨rfl, rfl⟩
      go_wp2_with fail
      first | (refine hK _ _ ⟨rfl, ?_⟩; clear hK K) | refine ⟨rfl, ?_⟩
      go_wp2_with fail
      refine region_flow [(false, [(0, 0), (1, 1), (2, 0), (3, 0), (4, 1), (5, 0), (6, 0), (7, 5)]), (false, [(8, 4), (9, 0)])] (by kernel_rfl) ?_
      refine norm_K fun K hK => ?_
      change wpList _ _ _ [_, _, _, _, _, _, _, _] _ _
      have hb31 : Below w28.heap.size w28 w28.drew := (by repeat (first | exact Below.refl _ _ | apply blw_drew | apply blw_alloc | (refine blw_set ?_ (by first | omega | (simp; done) | (simp; omega)) _) | refine below_chain ?_ (by assumption)))
      have d00 := kept hb31 d00; have d01 := kept hb31 d01; have hx0 := hx0.below hb31; have hx1 := hx1.below hb31; have hx2 := hx2.below hb31; have hy := hy.below hb31; have e0 := kept hb31 e0; have e1 := kept hb31 e1; have hz2 := hz2.below hb31
      go_wp2_with fail
      refine (sscale_c (by omega) (by omega) (by omega) (by omega) hx1 (fx.sm (by omega) (by omega)) (by omega)).mono ?_; rintro e w32 ⟨q, rfl, hq3, hb32⟩
      have d00 := kept hb32 d00; have d01 := kept hb32 d01; have hx0 := hx0.below hb32; have hx1 := hx1.below hb32; have hx2 := hx2.below hb32; have hy := hy.below hb32; have e0 := kept hb32 e0; have e1 := kept hb32 e1; have hz2 := hz2.below hb32
      go_wp2_with fail
      have hz0 : Below w28.drew.heap.size w28.drew w32 := (by repeat (first | exact Below.refl _ _ | apply blw_drew | apply blw_alloc | (refine blw_set ?_ (by first | omega | (simp; done) | (simp; omega)) _) | refine below_chain ?_ (by assumption)))
      first | (refine hK _ _ ⟨hz0, ?_⟩; clear hK K) | refine ⟨hz0, ?_⟩
      clear hz0
      refine norm_K fun K hK => ?_
      change wpList _ _ _ [_, _] _ _
      go_wp2_with fail
      refine (sminus_c (by omega) (by omega) hz2.sl hq3.sl ((pointL_fp (by omega)).sm (by omega) (by omega)) ((scaleL_fp (by omega)).sm (by omega) (by omega)) (by rw [scaleL_len, LX.out, LP.out]) (by rw [LP.out, LE.out]; omega)).mono ?_; rintro e w33 ⟨o, rfl, ho, hb33⟩
      have d00 := kept hb33 d00; have d01 := kept hb33 d01; have hx0 := hx0.below hb33; have hx1 := hx1.below hb33; have hx2 := hx2.below hb33; have hy := hy.below hb33; have e0 := kept hb33 e0; have e1 := kept hb33 e1; have hz2 := hz2.below hb33; have hq3 := hq3.below hb33
      go_wp2_with fail
      first | (refine hK _ _ ⟨rfl, ?_⟩; clear hK K) | refine ⟨rfl, ?_⟩
      rw [refl_eq hp HN.out] at ho
      change FrI _ _ _ (outL p0 sq0 xs1 xs2) at ho
      go_wp2_with fail
      refine (swt_c h1 (by omega) hx0 ho.sl hvo).mono ?_; rintro e w34 ⟨rfl, hb34⟩
      have d00 := kept hb34 d00; have d01 := kept hb34 d01; have hx0 := hx0.below hb34; have hx1 := hx1.below hb34; have hx2 := hx2.below hb34; have hy := hy.below hb34; have e0 := kept hb34 e0; have e1 := kept hb34 e1; have hz2 := hz2.below hb34; have hq3 := hq3.below hb34; have ho := ho.below hb34
      simp only [HW.out]
      go_wp2_with fail
      go_ret2
      exact ⟨_, rfl, .inl ⟨rfl, rfl⟩, (by repeat (first | exact Below.refl _ _ | apply blw_drew | apply blw_alloc | (refine blw_set ?_ (by first | omega | (simp; done) | (simp; omega)) _) | refine below_chain ?_ (by assumption)))⟩
    · skip
      have hpn := fun (W : World) (y : Value) (hy : Sl W y (extL p0 sq0)) (hx : Sl W (.slice a1 xs1.length c1) xs1) => spair_c (w := W) (by omega) hp2 hy hx hx (extL_fp hp1 hf) fx fx LX.out.symm rfl (by rw [LE.out]; omega) (by omega)
      simp only [← HN.out] at hpn
      have hq2 := pairL_fp (p := p0) (sq := extL p0 sq0) (v := pointL p0 sq0 xs2) (w := xs1) (by omega)
      have hi := invL_fp (p := p0) (a := N) (by omega)
      have hm2' := mulb (A := 26) (B := 13) (k := 2 * pairL p0 (extL p0 sq0) (pointL p0 sq0 xs2) xs1) (y := invL p0 N) (by omega) (by omega) (by omega) (by omega)
      have hkk := mod_fp (p := p0) (x := 2 * pairL p0 (extL p0 sq0) (pointL p0 sq0 xs2) xs1 * invL p0 N) (by omega)
      obtain ⟨e1, e0⟩ := hyes hz hw
      rw [e0, e1]
      have hb : (weightL p0 sq0 (outL p0 sq0 xs1 xs2) != 0) = true := by simpa using hw
      have hwd : (weightL p0 sq0 (outL p0 sq0 xs1 xs2) == 0) = false := by simpa using hw
      have HW := Lib.hid hw
      have hz1 : 1 ≤ N := by omega
      clear hno hnw hyes e0 e1 hw hz
      go_enter Try.func44, Try.ntmps44
      go_wp2_with fail
      refine hcon.mono ?_; rintro e w1 ⟨rfl, hb1⟩
      rw [← hW] at hb1
      clear hW hcon
      have d00 := kept hb1 d00; have d01 := kept hb1 d01; have hx0 := hx0.below hb1; have hx1 := hx1.below hb1; have hx2 := hx2.below hb1
      go_wp2_with fail
      refine (sext_c hx0 h1).mono ?_; rintro e w22 ⟨y, rfl, ⟨g, cap, rfl, hy⟩, hb22⟩
      have d00 := kept hb22 d00; have d01 := kept hb22 d01; have hx0 := hx0.below hb22; have hx1 := hx1.below hb22; have hx2 := hx2.below hb22
      have hb23 : Below w22.heap.size w22 (w22.alloc (.cells #[.int .i64 p0, .slice (some ⟨g, 0, none⟩) (extL p0 sq0).length cap] 28)) := (by repeat (first | exact Below.refl _ _ | apply blw_drew | apply blw_alloc | (refine blw_set ?_ (by first | omega | (simp; done) | (simp; omega)) _) | refine below_chain ?_ (by assumption)))
      have d00 := kept hb23 d00; have d01 := kept hb23 d01; have hx0 := hx0.below hb23; have hx1 := hx1.below hb23; have hx2 := hx2.below hb23; have hy := hy.below hb23
      have e0 : (w22.alloc (.cells #[.int .i64 p0, .slice (some ⟨g, 0, none⟩) (extL p0 sq0).length cap] 28)).cell? ⟨w22.heap.size, 0, none⟩ = some (.int .i64 p0) := by simp [go_sem]
      have e1 : (w22.alloc (.cells #[.int .i64 p0, .slice (some ⟨g, 0, none⟩) (extL p0 sq0).length cap] 28)).cell? ⟨w22.heap.size, 1, none⟩ = some (.slice (some ⟨g, 0, none⟩) (extL p0 sq0).length cap) := by simp [go_sem]
      go_wp2_with fail
      refine region_flow [(false, [(0, 1), (1, 0), (2, 0), (4, 1), (5, 0), (3, 5)]), (false, [(6, 4), (7, 0), (8, 0)])] (by kernel_rfl) ?_
      refine norm_K fun K hK => ?_
      change wpList _ _ _ [_, _, _, _, _, _] _ _
      have hb24 : Below (w22.alloc (.cells #[.int .i64 p0, .slice (some ⟨g, 0, none⟩) (extL p0 sq0).length cap] 28)).heap.size (w22.alloc (.cells #[.int .i64 p0, .slice (some ⟨g, 0, none⟩) (extL p0 sq0).length cap] 28)) (w22.alloc (.cells #[.int .i64 p0, .slice (some ⟨g, 0, none⟩) (extL p0 sq0).length cap] 28)).drew := (by repeat (first | exact Below.refl _ _ | apply blw_drew | apply blw_alloc | (refine blw_set ?_ (by first | omega | (simp; done) | (simp; omega)) _) | refine below_chain ?_ (by assumption)))
      have d00 := kept hb24 d00; have d01 := kept hb24 d01; have hx0 := hx0.below hb24; have hx1 := hx1.below hb24; have hx2 := hx2.below hb24; have hy := hy.below hb24; have e0 := kept hb24 e0; have e1 := kept hb24 e1
      go_wp2_with fail
      refine (hpn _ _ hy.sl hx1).mono ?_; rintro e w25 ⟨rfl, hb25⟩
      have d00 := kept hb25 d00; have d01 := kept hb25 d01; have hx0 := hx0.below hb25; have hx1 := hx1.below hb25; have hx2 := hx2.below hb25; have hy := hy.below hb25; have e0 := kept hb25 e0; have e1 := kept hb25 e1
      go_wp2_with fail
      have hz0 : Below (w22.alloc (.cells #[.int .i64 p0, .slice (some ⟨g, 0, none⟩) (extL p0 sq0).length cap] 28)).drew.heap.size (w22.alloc (.cells #[.int .i64 p0, .slice (some ⟨g, 0, none⟩) (extL p0 sq0).length cap] 28)).drew w25 := (by repeat (first | exact Below.refl _ _ | apply blw_drew | apply blw_alloc | (refine blw_set ?_ (by first | omega | (simp; done) | (simp; omega)) _) | refine below_chain ?_ (by assumption)))
      first | (refine hK _ _ ⟨hz0, ?_⟩; clear hK K) | refine ⟨hz0, ?_⟩
      clear hz0
      refine norm_K fun K hK => ?_
      change wpList _ _ _ [_, _, _] _ _
      go_wp2_with fail
      refine (spoint_c h1 hx0 hx2 hv2).mono ?_; rintro e w26 ⟨z, rfl, hz2, hb26⟩
      have d00 := kept hb26 d00; have d01 := kept hb26 d01; have hx0 := hx0.below hb26; have hx1 := hx1.below hb26; have hx2 := hx2.below hb26; have hy := hy.below hb26; have e0 := kept hb26 e0; have e1 := kept hb26 e1
      go_wp2_with fail
      first | (refine hK _ _ ⟨rfl, ?_⟩; clear hK K) | refine ⟨rfl, ?_⟩
      go_wp2_with fail
      refine region_flow [(false, [(0, 0), (1, 1), (2, 1), (3, 0), (4, 0), (7, 0), (8, 1), (9, 0), (5, 5)]), (false, [(6, 0), (10, 5)]), (false, [(11, 0), (12, 4), (13, 0)])] (by kernel_rfl) ?_
      refine norm_K fun K hK => ?_
      change wpList _ _ _ [_, _, _, _, _, _, _, _, _] _ _
      have hb27 : Below w26.heap.size w26 w26.drew := (by repeat (first | exact Below.refl _ _ | apply blw_drew | apply blw_alloc | (refine blw_set ?_ (by first | omega | (simp; done) | (simp; omega)) _) | refine below_chain ?_ (by assumption)))
      have d00 := kept hb27 d00; have d01 := kept hb27 d01; have hx0 := hx0.below hb27; have hx1 := hx1.below hb27; have hx2 := hx2.below hb27; have hy := hy.below hb27; have e0 := kept hb27 e0; have e1 := kept hb27 e1; have hz2 := hz2.below hb27
      go_wp2_with fail
      refine (spair_c (by omega) hp2 hy.sl hz2.sl hx1 (extL_fp hp1 hf) (pointL_fp (by omega)) fx (by rw [LP.out]) (by rw [LX.out, LP.out]) (by rw [LE.out]; omega) (by rw [LP.out, LE.out]; omega)).mono ?_; rintro e w28 ⟨rfl, hb28⟩
      have d00 := kept hb28 d00; have d01 := kept hb28 d01; have hx0 := hx0.below hb28; have hx1 := hx1.below hb28; have hx2 := hx2.below hb28; have hy := hy.below hb28; have e0 := kept hb28 e0; have e1 := kept hb28 e1; have hz2 := hz2.below hb28
      go_wp2_with fail
      have hz0 : Below w26.drew.heap.size w26.drew w28 := (by repeat (first | exact Below.refl _ _ | apply blw_drew | apply blw_alloc | (refine blw_set ?_ (by first | omega | (simp; done) | (simp; omega)) _) | refine below_chain ?_ (by assumption)))
      first | (refine hK _ _ ⟨hz0, ?_⟩; clear hK K) | refine ⟨hz0, ?_⟩
      clear hz0
      refine norm_K fun K hK => ?_
      change wpList _ _ _ [_, _] _ _
      go_wp2_with fail
      refine (sinv_c hp hz1 hN.2).mono ?_; rintro e w29 ⟨rfl, rfl⟩
      go_wp2_with fail
      have hz1 : Below w26.drew.heap.size w26.drew w28 := (by repeat (first | exact Below.refl _ _ | apply blw_drew | apply blw_alloc | (refine blw_set ?_ (by first | omega | (simp; done) | (simp; omega)) _) | refine below_chain ?_ (by assumption)))
      first | (refine hK _ _ ⟨hz1, ?_⟩; clear hK K) | refine ⟨hz1, ?_⟩
      clear hz1
      refine norm_K fun K hK => ?_
      change wpList _ _ _ [_, _, _] _ _
      go_wp2_with fail
      refine (smod_c (by omega) (by omega)).mono ?_; rintro e w30 ⟨rfl, rfl⟩
      go_wp2_with fail
      first | (refine hK _ _ ⟨rfl, ?_⟩; clear hK K) | refine ⟨rfl, ?_⟩
      go_wp2_with fail
      refine region_flow [(false, [(0, 0), (1, 1), (2, 0), (3, 0), (4, 1), (5, 0), (6, 0), (7, 5)]), (false, [(8, 4), (9, 0)])] (by kernel_rfl) ?_
      refine norm_K fun K hK => ?_
      change wpList _ _ _ [_, _, _, _, _, _, _, _] _ _
      have hb31 : Below w28.heap.size w28 w28.drew := (by repeat (first | exact Below.refl _ _ | apply blw_drew | apply blw_alloc | (refine blw_set ?_ (by first | omega | (simp; done) | (simp; omega)) _) | refine below_chain ?_ (by assumption)))
      have d00 := kept hb31 d00; have d01 := kept hb31 d01; have hx0 := hx0.below hb31; have hx1 := hx1.below hb31; have hx2 := hx2.below hb31; have hy := hy.below hb31; have e0 := kept hb31 e0; have e1 := kept hb31 e1; have hz2 := hz2.below hb31
      go_wp2_with fail
      refine (sscale_c (by omega) (by omega) (by omega) (by omega) hx1 (fx.sm (by omega) (by omega)) (by omega)).mono ?_; rintro e w32 ⟨q, rfl, hq3, hb32⟩
      have d00 := kept hb32 d00; have d01 := kept hb32 d01; have hx0 := hx0.below hb32; have hx1 := hx1.below hb32; have hx2 := hx2.below hb32; have hy := hy.below hb32; have e0 := kept hb32 e0; have e1 := kept hb32 e1; have hz2 := hz2.below hb32
      go_wp2_with fail
      have hz0 : Below w28.drew.heap.size w28.drew w32 := (by repeat (first | exact Below.refl _ _ | apply blw_drew | apply blw_alloc | (refine blw_set ?_ (by first | omega | (simp; done) | (simp; omega)) _) | refine below_chain ?_ (by assumption)))
      first | (refine hK _ _ ⟨hz0, ?_⟩; clear hK K) | refine ⟨hz0, ?_⟩
      clear hz0
      refine norm_K fun K hK => ?_
      change wpList _ _ _ [_, _] _ _
      go_wp2_with fail
      refine (sminus_c (by omega) (by omega) hz2.sl hq3.sl ((pointL_fp (by omega)).sm (by omega) (by omega)) ((scaleL_fp (by omega)).sm (by omega) (by omega)) (by rw [scaleL_len, LX.out, LP.out]) (by rw [LP.out, LE.out]; omega)).mono ?_; rintro e w33 ⟨o, rfl, ho, hb33⟩
      have d00 := kept hb33 d00; have d01 := kept hb33 d01; have hx0 := hx0.below hb33; have hx1 := hx1.below hb33; have hx2 := hx2.below hb33; have hy := hy.below hb33; have e0 := kept hb33 e0; have e1 := kept hb33 e1; have hz2 := hz2.below hb33; have hq3 := hq3.below hb33
      go_wp2_with fail
      first | (refine hK _ _ ⟨rfl, ?_⟩; clear hK K) | refine ⟨rfl, ?_⟩
      rw [refl_eq hp HN.out] at ho
      change FrI _ _ _ (outL p0 sq0 xs1 xs2) at ho
      go_wp2_with fail
      refine (swt_c h1 (by omega) hx0 ho.sl hvo).mono ?_; rintro e w34 ⟨rfl, hb34⟩
      have d00 := kept hb34 d00; have d01 := kept hb34 d01; have hx0 := hx0.below hb34; have hx1 := hx1.below hb34; have hx2 := hx2.below hb34; have hy := hy.below hb34; have e0 := kept hb34 e0; have e1 := kept hb34 e1; have hz2 := hz2.below hb34; have hq3 := hq3.below hb34; have ho := ho.below hb34
      go_wp2_with fail
      refine (splace_c h1 (by omega) hx0 ho.sl ho.cp hvo HW.out).mono ?_; rintro e w35 ⟨r, rfl, hr, hb35⟩
      have d00 := kept hb35 d00; have d01 := kept hb35 d01; have hx0 := hx0.below hb35; have hx1 := hx1.below hb35; have hx2 := hx2.below hb35; have hy := hy.below hb35; have e0 := kept hb35 e0; have e1 := kept hb35 e1; have hz2 := hz2.below hb35; have hq3 := hq3.below hb35; have ho := ho.below hb35
      go_wp2_with fail
      go_ret2
      exact ⟨_, rfl, hr.ow (below_le (by repeat (first | exact Below.refl _ _ | apply blw_drew | apply blw_alloc | (refine blw_set ?_ (by first | omega | (simp; done) | (simp; omega)) _) | refine below_chain ?_ (by assumption)))), (by repeat (first | exact Below.refl _ _ | apply blw_drew | apply blw_alloc | (refine blw_set ?_ (by first | omega | (simp; done) | (simp; omega)) _) | refine below_chain ?_ (by assumption)))⟩
  · have e1 : RInvertAt1 p0 sq0 xs1 xs2 = chkP p0 sq0 [xs2] [xs1] := by unfold RInvertAt1; rw [if_neg h0]
    rw [show RInvertAt0 p0 sq0 xs1 xs2 = [] by unfold RInvertAt0; rw [e1, if_neg h0], e1]
    clear e1
    obtain ⟨k, hk⟩ : ∃ k, k = chkP p0 sq0 [xs2] [xs1] := ⟨_, rfl⟩
    rw [← hk] at h0 hcon ⊢
    clear hk
    have hne : (k == 0) = false := by simpa using h0
    go_enter Try.func44, Try.ntmps44
    go_wp2_with fail
    refine hcon.mono ?_; rintro e w1 ⟨rfl, hb1⟩
    rw [← hW] at hb1
    clear hW hcon
    go_wp2_with fail
    go_ret2
    exact ⟨_, rfl, .inl ⟨rfl, rfl⟩, (by repeat (first | exact Below.refl _ _ | apply blw_drew | apply blw_alloc | (refine blw_set ?_ (by first | omega | (simp; done) | (simp; omega)) _) | refine below_chain ?_ (by assumption)))⟩
set_option maxHeartbeats 1000000 in
theorem law_InvertAt {p0 : Int} {x0 : Value} {sq0 : List Int} {x1 : Value} {xs1 : List Int} {x2 : Value} {xs2 : List Int} {w : World} (hx0 : Sl w x0 sq0) (hm0 : sq0.length ≤ 9223372036854775807) (hx1 : Sl w x1 xs1) (hm1 : xs1.length ≤ 9223372036854775807) (hx2 : Sl w x2 xs2) (hm2 : xs2.length ≤ 9223372036854775807) :
    Calls Try.prog 13 #[.agg #[.int .i64 p0, x0], x1, x2] w fun e w' => e = .returned (.bool true) ∧ Below w.heap.size w w' := by
  obtain ⟨a0, c0, rfl, _⟩ := id hx0
  obtain ⟨a1, c1, rfl, _⟩ := id hx1
  obtain ⟨a2, c2, rfl, _⟩ := id hx2
  by_cases hl1 : xs1.length ≤ 1048576
  case neg =>
    go_enter Try.func13, Try.ntmps13
    go_wp2_with fail
    go_ret
    exact ⟨rfl, (by repeat (first | exact Below.refl _ _ | apply blw_drew | apply blw_alloc | (refine blw_set ?_ (by first | omega | (simp; done) | (simp; omega)) _) | refine below_chain ?_ (by assumption)))⟩
  by_cases hl2 : xs2.length ≤ 1048576
  case neg =>
    go_enter Try.func13, Try.ntmps13
    go_wp2_with fail
    go_ret
    exact ⟨rfl, (by repeat (first | exact Below.refl _ _ | apply blw_drew | apply blw_alloc | (refine blw_set ?_ (by first | omega | (simp; done) | (simp; omega)) _) | refine below_chain ?_ (by assumption)))⟩
  obtain ⟨z0, hz0⟩ : ∃ z, z = szI 1048576 sq0.length := ⟨_, rfl⟩
  have hzb0 := szI_bd (left := 1048576) (n := sq0.length) (by decide) (by decide)
  rw [← hz0] at hzb0
  by_cases hs0 : z0 < 0
  case pos =>
    go_enter Try.func13, Try.ntmps13
    go_wp2_with (go_at_call 15; refine (szsp_c (by decide) (by decide) (by omega)).mono ?_; rintro e w1 ⟨rfl, hb1⟩; simp only [← hz0])
    go_ret
    exact ⟨rfl, (by repeat (first | exact Below.refl _ _ | apply blw_drew | apply blw_alloc | (refine blw_set ?_ (by first | omega | (simp; done) | (simp; omega)) _) | refine below_chain ?_ (by assumption)))⟩
  have hl0 : sq0.length ≤ 1048576 := by rw [hz0] at hs0; have := cnt_bd hs0; omega
  have hI := fun (W : World) (x0 : Value) (hx0 : Sl W x0 sq0) (x1 : Value) (hx1 : Sl W x1 xs1) (x2 : Value) (hx2 : Sl W x2 xs2) => iInvertAt_c (w := W) (p0 := p0) hx0 hl0 hx1 hl1 hx2 hl2
  have hS := fun (W : World) (x0 : Value) (hx0 : Sl W x0 sq0) (x1 : Value) (hx1 : Sl W x1 xs1) (x2 : Value) (hx2 : Sl W x2 xs2) => sInvertAt_c (w := W) (p0 := p0) hx0 hl0 hx1 hl1 hx2 hl2
  have yl0 := RInvertAt0_len p0 sq0 xs1 xs2 hl0 hl1 hl2
  obtain ⟨y0, hy0⟩ : ∃ y, y = RInvertAt0 p0 sq0 xs1 xs2 := ⟨_, rfl⟩
  obtain ⟨y1, hy1⟩ : ∃ y, y = RInvertAt1 p0 sq0 xs1 xs2 := ⟨_, rfl⟩
  simp only [← hy0, ← hy1] at hI hS yl0
  clear hy0 hy1
  go_enter Try.func13, Try.ntmps13
  have hb0 : Below w.heap.size w (w.alloc (.cells #[.int .i64 p0, .slice a0 sq0.length c0] 24)) := (by repeat (first | exact Below.refl _ _ | apply blw_drew | apply blw_alloc | (refine blw_set ?_ (by first | omega | (simp; done) | (simp; omega)) _) | refine below_chain ?_ (by assumption)))
  have hx0 := hx0.below hb0; have hx1 := hx1.below hb0; have hx2 := hx2.below hb0
  have d00 : (w.alloc (.cells #[.int .i64 p0, .slice a0 sq0.length c0] 24)).cell? ⟨w.heap.size, 0, none⟩ = some (.int .i64 p0) := by simp [go_sem]
  have d01 : (w.alloc (.cells #[.int .i64 p0, .slice a0 sq0.length c0] 24)).cell? ⟨w.heap.size, 1, none⟩ = some (.slice a0 sq0.length c0) := by simp [go_sem]
  go_wp2_with fail
  refine (szsp_c (by decide) (by decide) (by omega)).mono ?_; rintro e w1 ⟨rfl, hb1⟩
  simp only [← hz0]
  have hx0 := hx0.below hb1; have hx1 := hx1.below hb1; have hx2 := hx2.below hb1; have d00 := kept hb1 d00; have d01 := kept hb1 d01
  go_wp2_with fail
  refine (tosp_c hx0 hl0).mono ?_; rintro e w2 ⟨t0, rfl, ht0, hb2⟩
  have hx0 := hx0.below hb2; have hx1 := hx1.below hb2; have hx2 := hx2.below hb2; have d00 := kept hb2 d00; have d01 := kept hb2 d01
  go_wp2_with fail
  refine (to_c hx1 hl1).mono ?_; rintro e w3 ⟨t1, rfl, ht1, hb3⟩
  have hx0 := hx0.below hb3; have hx1 := hx1.below hb3; have hx2 := hx2.below hb3; have d00 := kept hb3 d00; have d01 := kept hb3 d01; have ht0 := ht0.below hb3
  go_wp2_with fail
  refine (to_c hx2 hl2).mono ?_; rintro e w4 ⟨t2, rfl, ht2, hb4⟩
  have hx0 := hx0.below hb4; have hx1 := hx1.below hb4; have hx2 := hx2.below hb4; have d00 := kept hb4 d00; have d01 := kept hb4 d01; have ht0 := ht0.below hb4; have ht1 := ht1.below hb4
  go_wp2_with fail
  refine (hS _ _ ht0.sl _ ht1.sl _ ht2.sl).mono ?_; rintro e w5 ⟨s0, rfl, hs0', hb5⟩
  have hx0 := hx0.below hb5; have hx1 := hx1.below hb5; have hx2 := hx2.below hb5; have d00 := kept hb5 d00; have d01 := kept hb5 d01
  have hx0_ := hx0
  have hx1_ := hx1
  have hx2_ := hx2
  have d00_ := d00
  have d01_ := d01
  have hs0'_ := hs0'
  go_wp2_with fail
  refine (tosp_c hx0 hl0).mono ?_; rintro e w6 ⟨t0, rfl, ⟨g0, k0, rfl, ht0⟩, hb6⟩
  have hx0 := hx0.below hb6; have hx1 := hx1.below hb6; have hx2 := hx2.below hb6; have d00 := kept hb6 d00; have d01 := kept hb6 d01; have hs0' := hs0'.below hb6
  have le6 := hb6.size; have ub0 : g0 < w6.heap.size := ht0.lt.2; have lb0 : w5.heap.size ≤ g0 := ht0.lt.1
  have hb7 : Below w6.heap.size w6 (w6.alloc (.cells #[.int .i64 p0, .slice (some ⟨g0, 0, none⟩) sq0.length k0] 28)) := (by repeat (first | exact Below.refl _ _ | apply blw_drew | apply blw_alloc | (refine blw_set ?_ (by first | omega | (simp; done) | (simp; omega)) _) | refine below_chain ?_ (by assumption)))
  have hx0 := hx0.below hb7; have hx1 := hx1.below hb7; have hx2 := hx2.below hb7; have d00 := kept hb7 d00; have d01 := kept hb7 d01; have hs0' := hs0'.below hb7; have ht0 := ht0.below hb7
  have e00 : (w6.alloc (.cells #[.int .i64 p0, .slice (some ⟨g0, 0, none⟩) sq0.length k0] 28)).cell? ⟨w6.heap.size, 0, none⟩ = some (.int .i64 p0) := by simp [go_sem]
  have e01 : (w6.alloc (.cells #[.int .i64 p0, .slice (some ⟨g0, 0, none⟩) sq0.length k0] 28)).cell? ⟨w6.heap.size, 1, none⟩ = some (.slice (some ⟨g0, 0, none⟩) sq0.length k0) := by simp [go_sem]
  have le7 : (w6.alloc (.cells #[.int .i64 p0, .slice (some ⟨g0, 0, none⟩) sq0.length k0] 28)).heap.size = w6.heap.size + 1 := by simp
  go_wp2_with fail
  refine (to_c hx1 hl1).mono ?_; rintro e w8 ⟨t1, rfl, ⟨g1, k1, rfl, ht1⟩, hb8⟩
  have hx0 := hx0.below hb8; have hx1 := hx1.below hb8; have hx2 := hx2.below hb8; have d00 := kept hb8 d00; have d01 := kept hb8 d01; have hs0' := hs0'.below hb8; have ht0 := ht0.below hb8; have e00 := kept hb8 e00; have e01 := kept hb8 e01
  have le8 := hb8.size; have ub1 : g1 < w8.heap.size := ht1.lt.2; have lb1 : (w6.alloc (.cells #[.int .i64 p0, .slice (some ⟨g0, 0, none⟩) sq0.length k0] 28)).heap.size ≤ g1 := ht1.lt.1
  go_wp2_with fail
  refine (to_c hx2 hl2).mono ?_; rintro e w9 ⟨t2, rfl, ⟨g2, k2, rfl, ht2⟩, hb9⟩
  have hx0 := hx0.below hb9; have hx1 := hx1.below hb9; have hx2 := hx2.below hb9; have d00 := kept hb9 d00; have d01 := kept hb9 d01; have hs0' := hs0'.below hb9; have ht0 := ht0.below hb9; have e00 := kept hb9 e00; have e01 := kept hb9 e01; have ht1 := ht1.below hb9
  have le9 := hb9.size; have ub2 : g2 < w9.heap.size := ht2.lt.2; have lb2 : w8.heap.size ≤ g2 := ht2.lt.1
  go_wp2_with fail
  refine (hI _ _ ht0.sl _ ht1.sl _ ht2.sl).mono ?_; rintro e w10 ⟨g100', rfl, hg0, hb10⟩
  have hx0 := hx0.below hb10; have hx1 := hx1.below hb10; have hx2 := hx2.below hb10; have d00 := kept hb10 d00; have d01 := kept hb10 d01; have hs0' := hs0'.below hb10; have ht0 := ht0.below hb10; have e00 := kept hb10 e00; have e01 := kept hb10 e01; have ht1 := ht1.below hb10; have ht2 := ht2.below hb10
  have bg0 := hg0.blk
  have le10 := hb10.size
  go_wp2_with fail
  refine (eqs_c hg0.sl hs0'.sl yl0).mono ?_; rintro e w11 ⟨rfl, hb11⟩
  have hx0 := hx0.below hb11; have hx1 := hx1.below hb11; have hx2 := hx2.below hb11; have d00 := kept hb11 d00; have d01 := kept hb11 d01; have hs0' := hs0'.below hb11; have ht0 := ht0.below hb11; have e00 := kept hb11 e00; have e01 := kept hb11 e01; have ht1 := ht1.below hb11; have ht2 := ht2.below hb11; have hg0 := hg0.below hb11
  go_wp2_with fail
  refine region_flow [(false, [(0, 1), (1, 1), (2, 5)]), (false, [(3, 4), (4, 0)])] (by kernel_rfl) ?_
  refine norm_K fun K hK => ?_
  change wpList _ _ _ [_, _, _] _ _
  have hb12 : Below w11.heap.size w11 w11.drew := (by repeat (first | exact Below.refl _ _ | apply blw_drew | apply blw_alloc | (refine blw_set ?_ (by first | omega | (simp; done) | (simp; omega)) _) | refine below_chain ?_ (by assumption)))
  have hx0 := hx0.below hb12; have hx1 := hx1.below hb12; have hx2 := hx2.below hb12; have d00 := kept hb12 d00; have d01 := kept hb12 d01; have hs0' := hs0'.below hb12; have ht0 := ht0.below hb12; have e00 := kept hb12 e00; have e01 := kept hb12 e01; have ht1 := ht1.below hb12; have ht2 := ht2.below hb12; have hg0 := hg0.below hb12
  go_wp2_with fail
  refine (tosp_c hx0 hl0).mono ?_; rintro e w13 ⟨u0, rfl, hu0, hb13⟩
  have hx0 := hx0.below hb13; have hx1 := hx1.below hb13; have hx2 := hx2.below hb13; have d00 := kept hb13 d00; have d01 := kept hb13 d01; have hs0' := hs0'.below hb13; have ht0 := ht0.below hb13; have e00 := kept hb13 e00; have e01 := kept hb13 e01; have ht1 := ht1.below hb13; have ht2 := ht2.below hb13; have hg0 := hg0.below hb13
  go_wp2_with fail
  first | (refine hK _ _ ⟨hb13, ?_⟩; clear hK K) | refine ⟨hb13, ?_⟩
  refine norm_K fun K hK => ?_
  change wpList _ _ _ [_, _] _ _
  go_wp2_with fail
  refine (eqsps_c ht0.sl hu0.sl hl0).mono ?_; rintro e w14 ⟨rfl, hb14⟩
  have hx0 := hx0.below hb14; have hx1 := hx1.below hb14; have hx2 := hx2.below hb14; have d00 := kept hb14 d00; have d01 := kept hb14 d01; have hs0' := hs0'.below hb14; have ht0 := ht0.below hb14; have e00 := kept hb14 e00; have e01 := kept hb14 e01; have ht1 := ht1.below hb14; have ht2 := ht2.below hb14; have hg0 := hg0.below hb14
  go_wp2_with fail
  first | (refine hK _ _ ⟨rfl, ?_⟩; clear hK K) | refine ⟨rfl, ?_⟩
  go_wp2_with fail
  refine (to_c hx1 hl1).mono ?_; rintro e w15 ⟨u1, rfl, hu1, hb15⟩
  have hx0 := hx0.below hb15; have hx1 := hx1.below hb15; have hx2 := hx2.below hb15; have d00 := kept hb15 d00; have d01 := kept hb15 d01; have hs0' := hs0'.below hb15; have ht0 := ht0.below hb15; have e00 := kept hb15 e00; have e01 := kept hb15 e01; have ht1 := ht1.below hb15; have ht2 := ht2.below hb15; have hg0 := hg0.below hb15
  go_wp2_with fail
  refine (eqs_c ht1.sl hu1.sl hl1).mono ?_; rintro e w16 ⟨rfl, hb16⟩
  have hx0 := hx0.below hb16; have hx1 := hx1.below hb16; have hx2 := hx2.below hb16; have d00 := kept hb16 d00; have d01 := kept hb16 d01; have hs0' := hs0'.below hb16; have ht0 := ht0.below hb16; have e00 := kept hb16 e00; have e01 := kept hb16 e01; have ht1 := ht1.below hb16; have ht2 := ht2.below hb16; have hg0 := hg0.below hb16
  go_wp2_with fail
  refine (to_c hx2 hl2).mono ?_; rintro e w17 ⟨u2, rfl, hu2, hb17⟩
  have hx0 := hx0.below hb17; have hx1 := hx1.below hb17; have hx2 := hx2.below hb17; have d00 := kept hb17 d00; have d01 := kept hb17 d01; have hs0' := hs0'.below hb17; have ht0 := ht0.below hb17; have e00 := kept hb17 e00; have e01 := kept hb17 e01; have ht1 := ht1.below hb17; have ht2 := ht2.below hb17; have hg0 := hg0.below hb17
  go_wp2_with fail
  refine (eqs_c ht2.sl hu2.sl hl2).mono ?_; rintro e w18 ⟨rfl, hb18⟩
  have hx0 := hx0.below hb18; have hx1 := hx1.below hb18; have hx2 := hx2.below hb18; have d00 := kept hb18 d00; have d01 := kept hb18 d01; have hs0' := hs0'.below hb18; have ht0 := ht0.below hb18; have e00 := kept hb18 e00; have e01 := kept hb18 e01; have ht1 := ht1.below hb18; have ht2 := ht2.below hb18; have hg0 := hg0.below hb18
  go_wp2_with fail
  have hW0 : Below w5.heap.size w5 w18 := (by repeat (first | exact Below.refl _ _ | apply blw_drew | apply blw_alloc | (refine blw_set ?_ (by first | omega | (simp; done) | (simp; omega)) _) | refine below_chain ?_ (by assumption)))
  refine (marksp_c (ht0.fr.ow (Nat.le_refl _)) hl0 (by omega) (by omega)).mono ?_; rintro e w19 ⟨rfl, hm0_, hgr0⟩
  have hb19 := blw_mark hW0 hgr0 (fun j hj => by have e : g0 = j := Option.some.inj hj; omega); clear hW0
  have hx0 := hx0_.below hb19
  have hx1 := hx1_.below hb19
  have hx2 := hx2_.below hb19
  have d00 := kept hb19 d00_
  have d01 := kept hb19 d01_
  have hs0' := hs0'_.below hb19
  have e00 := farc hgr0 e00 (fun hj => absurd (Option.some.inj (show some _ = some g0 from hj)) (by omega))
  have e01 := farc hgr0 e01 (fun hj => absurd (Option.some.inj (show some _ = some g0 from hj)) (by omega))
  have ht1 := ht1.grown hgr0 (fun hj => absurd (Option.some.inj (show some _ = some g0 from hj)) (by omega))
  have ht2 := ht2.grown hgr0 (fun hj => absurd (Option.some.inj (show some _ = some g0 from hj)) (by omega))
  have hg0 := hg0.far hgr0 (fun j hj => by have e : g0 = j := Option.some.inj hj; omega)
  go_wp2_with fail
  have hW1 : Below w5.heap.size w5 w19 := (by repeat (first | exact Below.refl _ _ | apply blw_drew | apply blw_alloc | (refine blw_set ?_ (by first | omega | (simp; done) | (simp; omega)) _) | refine below_chain ?_ (by assumption)))
  refine (mark_c (ht1.fr.ow (Nat.le_refl _)) hl1 (by omega) (by omega)).mono ?_; rintro e w20 ⟨rfl, hm1_, hgr1⟩
  have hb20 := blw_mark hW1 hgr1 (fun j hj => by have e : g1 = j := Option.some.inj hj; omega); clear hW1
  have hx0 := hx0_.below hb20
  have hx1 := hx1_.below hb20
  have hx2 := hx2_.below hb20
  have d00 := kept hb20 d00_
  have d01 := kept hb20 d01_
  have hs0' := hs0'_.below hb20
  have e00 := farc hgr1 e00 (fun hj => absurd (Option.some.inj (show some _ = some g1 from hj)) (by omega))
  have e01 := farc hgr1 e01 (fun hj => absurd (Option.some.inj (show some _ = some g1 from hj)) (by omega))
  have ht2 := ht2.grown hgr1 (fun hj => absurd (Option.some.inj (show some _ = some g1 from hj)) (by omega))
  have hg0 := hg0.far hgr1 (fun j hj => by have e : g1 = j := Option.some.inj hj; omega)
  go_wp2_with fail
  have hW2 : Below w5.heap.size w5 w20 := (by repeat (first | exact Below.refl _ _ | apply blw_drew | apply blw_alloc | (refine blw_set ?_ (by first | omega | (simp; done) | (simp; omega)) _) | refine below_chain ?_ (by assumption)))
  refine (mark_c (ht2.fr.ow (Nat.le_refl _)) hl2 (by omega) (by omega)).mono ?_; rintro e w21 ⟨rfl, hm2_, hgr2⟩
  have hb21 := blw_mark hW2 hgr2 (fun j hj => by have e : g2 = j := Option.some.inj hj; omega); clear hW2
  have hx0 := hx0_.below hb21
  have hx1 := hx1_.below hb21
  have hx2 := hx2_.below hb21
  have d00 := kept hb21 d00_
  have d01 := kept hb21 d01_
  have hs0' := hs0'_.below hb21
  have e00 := farc hgr2 e00 (fun hj => absurd (Option.some.inj (show some _ = some g2 from hj)) (by omega))
  have e01 := farc hgr2 e01 (fun hj => absurd (Option.some.inj (show some _ = some g2 from hj)) (by omega))
  have hg0 := hg0.far hgr2 (fun j hj => by have e : g2 = j := Option.some.inj hj; omega)
  go_wp2_with fail
  refine (eqs_c hg0.sl hs0'.sl yl0).mono ?_; rintro e w22 ⟨rfl, hb22⟩
  have hx0 := hx0.below hb22; have hx1 := hx1.below hb22; have hx2 := hx2.below hb22; have d00 := kept hb22 d00; have d01 := kept hb22 d01; have hs0' := hs0'.below hb22; have e00 := kept hb22 e00; have e01 := kept hb22 e01; have hg0 := hg0.below hb22
  go_wp2_with fail
  have hWg : Below w5.heap.size w5 w22 := (by repeat (first | exact Below.refl _ _ | apply blw_drew | apply blw_alloc | (refine blw_set ?_ (by first | omega | (simp; done) | (simp; omega)) _) | refine below_chain ?_ (by assumption)))
  have lg : w5.heap.size ≤ w9.heap.size := (below_le (by repeat (first | exact Below.refl _ _ | apply blw_drew | apply blw_alloc | (refine blw_set ?_ (by first | omega | (simp; done) | (simp; omega)) _) | refine below_chain ?_ (by assumption))))
  refine (mark_c hg0 yl0 (by omega) (by omega)).mono ?_; rintro e w23 ⟨rfl, hg0, hgrg⟩
  have hb23 := blw_mark hWg hgrg (fun j hj => by have := bg0 j hj; omega); clear hWg
  have hx0 := hx0_.below hb23
  have hx1 := hx1_.below hb23
  have hx2 := hx2_.below hb23
  have d00 := kept hb23 d00_
  have d01 := kept hb23 d01_
  have hs0' := hs0'_.below hb23
  go_wp2_with fail
  refine (held_c (n := y0.length) hg0.sl yl0 (by omega) (by omega)).mono ?_; rintro e w24 ⟨rfl, rfl⟩
  go_wp2_with fail
  refine (tosp_c hx0 hl0).mono ?_; rintro e w25 ⟨r0, rfl, hr0, hb25⟩
  have hx0 := hx0.below hb25; have hx1 := hx1.below hb25; have hx2 := hx2.below hb25; have d00 := kept hb25 d00; have d01 := kept hb25 d01; have hs0' := hs0'.below hb25; have hg0 := hg0.below hb25
  go_wp2_with fail
  refine (to_c hx1 hl1).mono ?_; rintro e w26 ⟨r1, rfl, hr1, hb26⟩
  have hx0 := hx0.below hb26; have hx1 := hx1.below hb26; have hx2 := hx2.below hb26; have d00 := kept hb26 d00; have d01 := kept hb26 d01; have hs0' := hs0'.below hb26; have hg0 := hg0.below hb26; have hr0 := hr0.below hb26
  go_wp2_with fail
  refine (to_c hx2 hl2).mono ?_; rintro e w27 ⟨r2, rfl, hr2, hb27⟩
  have hx0 := hx0.below hb27; have hx1 := hx1.below hb27; have hx2 := hx2.below hb27; have d00 := kept hb27 d00; have d01 := kept hb27 d01; have hs0' := hs0'.below hb27; have hg0 := hg0.below hb27; have hr0 := hr0.below hb27; have hr1 := hr1.below hb27
  go_wp2_with fail
  refine (hI _ _ hr0.sl _ hr1.sl _ hr2.sl).mono ?_; rintro e w28 ⟨f100', rfl, hf0, hb28⟩
  have hx0 := hx0.below hb28; have hx1 := hx1.below hb28; have hx2 := hx2.below hb28; have d00 := kept hb28 d00; have d01 := kept hb28 d01; have hs0' := hs0'.below hb28; have hg0 := hg0.below hb28
  go_wp2_with fail
  refine (eqs_c hf0.sl hs0'.sl yl0).mono ?_; rintro e w29 ⟨rfl, hb29⟩
  have hx0 := hx0.below hb29; have hx1 := hx1.below hb29; have hx2 := hx2.below hb29; have d00 := kept hb29 d00; have d01 := kept hb29 d01; have hs0' := hs0'.below hb29; have hg0 := hg0.below hb29; have hf0 := hf0.below hb29
  go_wp2_with fail
  refine (held_c (n := y0.length) hg0.sl yl0 (by omega) (by omega)).mono ?_; rintro e w30 ⟨rfl, rfl⟩
  go_wp2_with fail
  go_ret
  exact ⟨rfl, (by repeat (first | exact Below.refl _ _ | apply blw_drew | apply blw_alloc | (refine blw_set ?_ (by first | omega | (simp; done) | (simp; omega)) _) | refine below_chain ?_ (by assumption)))⟩
end Go.Proofs.Ytcpeogbneliceaa
