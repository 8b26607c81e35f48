/-
  The law FnSphereCounts: its walk.
-/
import Derived.Test.YtklnpikkkekonaaSpF
import Derived.Test.YtklnpikkkekonaaSpC
import Derived.Test.YtklnpikkkekonaaLCountOnSphere
import Derived.Test.YtklnpikkkekonaaLSphereOf
namespace Go.Proofs.Ytklnpikkkekonaa
open Go.RowKit

set_option maxHeartbeats 8000000 in
set_option maxRecDepth 100000 in
theorem law_SphereCounts {a : Option Addr} {n c : Nat} {w : World} (hn : n ≤ 9223372036854775807) (hco : n ≤ 4096 → Co w w.heap.size (.slice a n c) n) :
    Calls Try.prog 3 #[.slice a n c] w fun e w' => e = .returned (.bool true) ∧ Below w.heap.size w w' := by
  by_cases hbig : 4096 < n
  · go_enter Try.func3, Try.ntmps3
    go_wp2_with fail
    refine (big_c hn).mono ?_; rintro e w1 ⟨rfl, rfl⟩
    rw [decide_eq_true hbig]
    go_wp2_with fail
    go_ret
    exact ⟨rfl, Below.refl _ _⟩
  have hc := hco (by omega)
  have hbf : decide (4096 < n) = false := decide_eq_false hbig
  go_enter Try.func3, Try.ntmps3
  go_wp2_with fail
  refine (big_c hn).mono ?_; rintro e w1 ⟨rfl, rfl⟩
  rw [hbf]
  clear hbig hbf hn hco
  go_wp2_with fail
  refine (sdrawcs_c hc).mono ?_; rintro e w1 ⟨p, v, u, sq, xs, rfl, hl, hm, hov, hou, hb1⟩
  obtain ⟨av, nv, cv, rfl⟩ := hov.form
  obtain rfl : nv = sq.length := hov.len
  obtain ⟨au, nu, cu, rfl⟩ := hou.form
  obtain rfl : nu = xs.length := hou.len
  have hcu := hou.cp
  have hb2 : Below w1.heap.size w1 (w1.alloc (.cells #[.int .i64 p, .slice av sq.length cv] 26)) := (by repeat (first | exact Below.refl _ _ | apply blw_drew | apply blw_alloc | (refine blw_set ?_ (by first | omega | (simp; done) | (simp; omega)) _) | refine below_chain ?_ (by assumption)))
  have hv := hov.sl.below hb2; have hu := hou.sl.below hb2
  have d0 : (w1.alloc (.cells #[.int .i64 p, .slice av sq.length cv] 26)).cell? ⟨w1.heap.size, 0, none⟩ = some (.int .i64 p) := by simp [go_sem]
  have d1 : (w1.alloc (.cells #[.int .i64 p, .slice av sq.length cv] 26)).cell? ⟨w1.heap.size, 1, none⟩ = some (.slice av sq.length cv) := by simp [go_sem]
  have hbw := below_chain hb1 hb2
  clear hc hov hou hb1 hb2
  obtain ⟨K, hK⟩ : ∃ K, K = RCountOnSphere0 p sq xs := ⟨_, rfl⟩
  obtain ⟨C, hC⟩ : ∃ C, C = RCountOnSphere1 p sq xs := ⟨_, rfl⟩
  have hI := iCountOnSphere_c (p0 := p) hv (by omega) hu (by omega)
  rw [← hK, ← hC] at hI
  have HKK := Lib.hid hK; have HCC := Lib.hid hC; clear hK hC
  go_wp2_with fail
  refine hI.mono ?_; rintro e w2 ⟨rfl, hb2⟩
  have d0 := kept hb2 d0; have d1 := kept hb2 d1; have hv := hv.below hb2; have hu := hu.below hb2
  have hbw := below_chain hbw hb2
  clear hI hb2
  have hS := sCountOnSphere_c (p0 := p) hv (by omega) hu (by omega)
  rw [← HKK.out, ← HCC.out] at hS
  go_wp2_with fail
  refine hS.mono ?_; rintro e w3 ⟨rfl, hb3⟩
  have d0 := kept hb3 d0; have d1 := kept hb3 d1; have hv := hv.below hb3; have hu := hu.below hb3
  have hbw := below_chain hbw hb3
  clear hS hb3
  by_cases h0 : C = 0
  case neg =>
    have hK0 : K = 0 := by
      rw [HKK.out]; unfold RCountOnSphere0
      rw [if_neg]
      intro h; exact h0 (HCC.out.trans h)
    have hne : (C != 0) = true := by simpa using h0
    subst hK0
    go_wp2_with fail
    go_ret
    exact ⟨by first | rfl | simp, hbw⟩
  subst h0
  have hch : chkP p sq [] [xs] = 0 := HCC.out.symm
  obtain ⟨g1, g2, g3, g4⟩ := chkP_pos hch
  have hV := g4 xs (by simp)
  have hlx := (isV_iff.1 hV).1
  rw [extL_len] at hlx
  have hK2 : K = (sumD p.toNat sq.length (onN p sq xs) : Nat) := by rw [HKK.out]; unfold RCountOnSphere0; rw [if_pos hch]
  have hlo := (isSp_iff.1 g1).1.lo
  have hO := iSphereOf_c (p0 := p) hv (by omega) hu (by omega) hcu
  have HLX := Lib.hid hlx; have HK := Lib.hid hK2
  clear hlx hK2 g3 g4
  by_cases hw : weightL p sq xs = 0
  · have e2 : RSphereOf2 p sq xs = 5 := by unfold RSphereOf2; rw [if_pos hch, if_pos hw]
    rw [e2] at hO
    clear hw e2 hch
    go_wp2_with fail
    refine hO.mono ?_; rintro e w4 ⟨v4, rfl, _, hb4⟩
    have hbw := below_chain hbw hb4
    clear hO
    go_wp2_with fail
    go_ret
    exact ⟨by first | rfl | simp, hbw⟩
  have e2 : RSphereOf2 p sq xs = 0 := by unfold RSphereOf2; rw [if_pos hch, if_neg hw]
  have e1 : RSphereOf1 p sq xs = pairL p (extL p sq) xs xs * invL p (weightL p sq xs) * invL p (weightL p sq xs) % p := by unfold RSphereOf1; rw [if_pos e2]
  have hcnt := sphere_count g1 HLX.out hw
  rw [← e1] at hcnt
  have hr0 : 0 ≤ RSphereOf1 p sq xs := by rw [e1]; exact Int.emod_nonneg _ (by omega)
  have hr1 : RSphereOf1 p sq xs < p := by rw [e1]; exact Int.emod_lt_of_pos _ (by omega)
  obtain ⟨r, hr⟩ : ∃ r, r = RSphereOf1 p sq xs := ⟨_, rfl⟩
  rw [e2, ← hr] at hO
  rw [← hr] at hr0 hr1 hcnt
  have hK3 : K = (numI p.toNat sq r : Nat) := by rw [HK.out, hcnt]
  have HK3 := Lib.hid hK3
  clear hw e1 e2 hcnt hr hch hK3
  go_wp2_with fail
  refine hO.mono ?_; rintro e w4 ⟨v4, rfl, _, hb4⟩
  have d0 := kept hb4 d0; have d1 := kept hb4 d1; have hv := hv.below hb4
  have hbw := below_chain hbw hb4
  clear hO hu hb4
  have hM := cntv_c g1 hv hr0 hr1
  rw [← HK3.out] at hM
  go_wp2_with fail
  refine hM.mono ?_; rintro e w5 ⟨rfl, hb5⟩
  have hbw := below_chain hbw hb5
  clear hM hb5
  go_wp2_with fail
  go_ret
  exact ⟨by first | rfl | simp, hbw⟩
end Go.Proofs.Ytklnpikkkekonaa
