/-
  How many vectors are on a sphere: the program's and the reference's, and the law.
-/
import Derived.Test.YtklnpikkkekonaaVec
namespace Go.Proofs.Ytklnpikkkekonaa
open Go.RowKit

def RCountOnSphere1 (p : Int) (sq xs : List Int) : Int := chkP p sq [] [xs]
def RCountOnSphere0 (p : Int) (sq xs : List Int) : Int := if chkP p sq [] [xs] = 0 then (sumD p.toNat sq.length (onN p sq xs) : Nat) else 0
theorem sumD_le {p n : Nat} {f : List Int → Nat} (h : ∀ v, f v ≤ 1) : sumD p n f ≤ p ^ n := sumR_le (fun _ => h _) _
theorem onN_le {p : Int} {sq x v : List Int} : onN p sq x v ≤ 1 := by unfold onN; split <;> omega
theorem iCountOnSphere_c {p0 : Int} {x0 : Value} {sq0 : List Int} {x1 : Value} {xs1 : List Int} {w : World} (hx0 : Sl w x0 sq0) (hm0 : sq0.length ≤ 1048576) (hx1 : Sl w x1 xs1) (hm1 : xs1.length ≤ 1048576) :
    Calls Try.prog 6 #[.agg #[.int .i64 p0, x0], x1] w fun e w' => e = .returned (.tuple #[.int .i64 (RCountOnSphere0 p0 sq0 xs1), .int .i64 (RCountOnSphere1 p0 sq0 xs1)]) ∧ Below w.heap.size w w' := by
  obtain ⟨a0, c0, rfl, _⟩ := id hx0
  obtain ⟨a1, c1, rfl, _⟩ := id hx1
  obtain ⟨W, hW⟩ : ∃ W, W = (((w.alloc (.cells #[.int .i64 p0, .slice a0 sq0.length c0] 26)).alloc (.cells #[.slice a1 xs1.length c1] 24)).alloc (.cells #[.slice a1 xs1.length c1] 24)) := ⟨_, rfl⟩
  have hbW : Below w.heap.size w W := by rw [hW]; exact (by repeat (first | exact Below.refl _ _ | apply blw_drew | apply blw_alloc | (refine blw_set ?_ (by first | omega | (simp; done) | (simp; omega)) _) | refine below_chain ?_ (by assumption)))
  have hx0 := hx0.below hbW
  have hx1 := hx1.below hbW
  have d00 : W.cell? ⟨w.heap.size, 0, none⟩ = some (.int .i64 p0) := by rw [hW]; simp [go_sem]
  have d01 : W.cell? ⟨w.heap.size, 1, none⟩ = some (.slice a0 sq0.length c0) := by rw [hW]; simp [go_sem]
  have dx : W.cell? ⟨w.heap.size + 1, 0, none⟩ = some (.slice a1 xs1.length c1) := by rw [hW]; simp [go_sem]
  have gly : Rl W (.slice (some ⟨w.heap.size + 1 + 1, 0, none⟩) 1 1) [xs1] := Rl.one hx1 (by rw [hW]; simp [go_sem])
  have hcon := chkpl_c (p := p0) hx0 (Rl.nil _) gly hm0 (by simp) (by simp) (by simp) (by simpa using hm1)
  rw [hW] at hcon
  by_cases h0 : chkP p0 sq0 [] [xs1] = 0
  · rw [h0] at hcon
    obtain ⟨h1, h2, h3, h4⟩ := chkP_pos h0
    have hv := h4 xs1 (by simp)
    rw [show RCountOnSphere0 p0 sq0 xs1 = (sumD p0.toNat sq0.length (onN p0 sq0 xs1) : Nat) from if_pos h0, show RCountOnSphere1 p0 sq0 xs1 = 0 from h0]
    clear h0 h3 h4
    have hlo := (isSp_iff.1 h1).1.lo
    obtain ⟨pn, rfl⟩ : ∃ n : Nat, p0 = n := Int.eq_ofNat_of_zero_le (by omega)
    rw [Int.toNat_natCast, ← sumD_rev (by omega)]
    have hbd := sumD_le (p := pn) (n := sq0.length) (fun v => onN_le (p := pn) (sq := sq0) (x := xs1) (v := v.reverse))
    have hpw := pow_bd (p := pn) (n := sq0.length) (by have := (isSp_iff.1 h1).1.hi; omega) h2
    obtain ⟨K, hK⟩ : ∃ K, K = sumD pn sq0.length (fun v => onN pn sq0 xs1 v.reverse) := ⟨_, rfl⟩
    rw [← hK] at hbd ⊢
    have HK := Lib.hid hK; clear hK
    go_enter Try.func6, Try.ntmps6
    go_wp2_with fail
    refine hcon.mono ?_; rintro e w1 ⟨rfl, hb1⟩
    rw [← hW] at hb1
    clear hW hcon
    have d00 := kept hb1 d00; have d01 := kept hb1 d01; have dx := kept hb1 dx; have hx0 := hx0.below hb1; have hx1 := hx1.below hb1
    have hz := hb1.size
    have hzW := hbW.size
    have hA : Below w1.heap.size w1 (w1.alloc (.cells #[.int .i64 0] 2)) := (by repeat (first | exact Below.refl _ _ | apply blw_drew | apply blw_alloc | (refine blw_set ?_ (by first | omega | (simp; done) | (simp; omega)) _) | refine below_chain ?_ (by assumption)))
    have k0 := kept hA d00; have k1 := kept hA d01
    go_wp2_with fail
    refine (vecs_c (w := w1.alloc (.cells #[.int .i64 0] 2)) (k := 0) h1 (by omega) hv hx0 hx1 d00 d01 dx (qm := w1.heap.size) (by repeat (first | exact Below.refl _ _ | apply blw_drew | apply blw_alloc | (refine blw_set ?_ (by first | omega | (simp; done) | (simp; omega)) _) | refine below_chain ?_ (by assumption))) (Nat.le_refl _) (by simp [go_sem]) (by simp [go_sem])).mono ?_; rintro e w2 ⟨rfl, hcm, hg⟩
    rw [← HK.out] at hcm
    have hbf := blw_grown (a := w) (below_chain hbW (below_chain hb1 (by repeat (first | exact Below.refl _ _ | apply blw_drew | apply blw_alloc | (refine blw_set ?_ (by first | omega | (simp; done) | (simp; omega)) _) | refine below_chain ?_ (by assumption))))) hg (by omega)
    go_wp2_with fail
    go_ret2
    exact ⟨rfl, hbf⟩
  · rw [show RCountOnSphere0 p0 sq0 xs1 = 0 from if_neg h0, show RCountOnSphere1 p0 sq0 xs1 = chkP p0 sq0 [] [xs1] from rfl]
    obtain ⟨k, hk⟩ : ∃ k, k = chkP p0 sq0 [] [xs1] := ⟨_, rfl⟩
    rw [← hk] at h0 hcon ⊢
    clear hk
    have hne : (k == 0) = false := by simpa using h0
    go_enter Try.func6, Try.ntmps6
    go_wp2_with fail
    refine hcon.mono ?_; rintro e w1 ⟨rfl, hb1⟩
    rw [← hW] at hb1
    clear hW hcon
    go_wp2_with fail
    go_ret2
    exact ⟨rfl, (by repeat (first | exact Below.refl _ _ | apply blw_drew | apply blw_alloc | (refine blw_set ?_ (by first | omega | (simp; done) | (simp; omega)) _) | refine below_chain ?_ (by assumption)))⟩
theorem fwd_get {l1 l2 : List Int} {a : Int} : (l1 ++ a :: l2).getD l1.length 0 = a := by
  rw [List.getD_eq_getElem?_getD, List.getElem?_append_right (Nat.le_refl _)]
  simp
theorem fwd_set {l1 l2 : List Int} {a b : Int} : (l1 ++ a :: l2).set l1.length b = l1 ++ b :: l2 := by
  rw [List.set_append_right _ _ (Nat.le_refl _)]
  simp
theorem sCountOnSphere_c {p0 : Int} {x0 : Value} {sq0 : List Int} {x1 : Value} {xs1 : List Int} {w : World} (hx0 : Sl w x0 sq0) (hm0 : sq0.length ≤ 1048576) (hx1 : Sl w x1 xs1) (hm1 : xs1.length ≤ 1048576) :
    Calls Try.prog 7 #[.agg #[.int .i64 p0, x0], x1] w fun e w' => e = .returned (.tuple #[.int .i64 (RCountOnSphere0 p0 sq0 xs1), .int .i64 (RCountOnSphere1 p0 sq0 xs1)]) ∧ Below w.heap.size w w' := by
  obtain ⟨a0, c0, rfl, _⟩ := id hx0
  obtain ⟨a1, c1, rfl, _⟩ := id hx1
  obtain ⟨W, hW⟩ : ∃ W, W = (w.alloc (.cells #[.int .i64 p0, .slice a0 sq0.length c0] 26)) := ⟨_, rfl⟩
  have hbW : Below w.heap.size w W := by rw [hW]; exact (by repeat (first | exact Below.refl _ _ | apply blw_drew | apply blw_alloc | (refine blw_set ?_ (by first | omega | (simp; done) | (simp; omega)) _) | refine below_chain ?_ (by assumption)))
  have hx0 := hx0.below hbW
  have hx1 := hx1.below hbW
  have d00 : W.cell? ⟨w.heap.size, 0, none⟩ = some (.int .i64 p0) := by rw [hW]; simp [go_sem]
  have d01 : W.cell? ⟨w.heap.size, 1, none⟩ = some (.slice a0 sq0.length c0) := by rw [hW]; simp [go_sem]
  have hcon := smore_c (p0 := p0) hx0 hx1 (Rl.nil _) hm0 hm1 (by simp) (by simp)
  rw [hW] at hcon
  by_cases h0 : chkP p0 sq0 [] [xs1] = 0
  · rw [h0] at hcon
    obtain ⟨h1, h2, h3, h4⟩ := chkP_pos h0
    have hv := h4 xs1 (by simp)
    rw [show RCountOnSphere0 p0 sq0 xs1 = (sumD p0.toNat sq0.length (onN p0 sq0 xs1) : Nat) from if_pos h0, show RCountOnSphere1 p0 sq0 xs1 = 0 from h0]
    clear h0 h3 h4
    have hp1 := (isSp_iff.1 h1).1.lo
    have hp2 := (isSp_iff.1 h1).1.hi
    obtain ⟨pn, rfl⟩ : ∃ n : Nat, p0 = n := Int.eq_ofNat_of_zero_le (by omega)
    rw [Int.toNat_natCast]
    have hmk := fun W => run_make_row' (P := Try.prog) 24 2 (.int .i64 0) 8 Try.underlying24 infoI rfl .i64 .i64 sq0.length (by omega) (by omega) W
    obtain ⟨f, hfe⟩ : ∃ f : Nat → Nat, f = fun j => onN pn sq0 xs1 (digL pn sq0.length j) := ⟨_, rfl⟩
    have hf1 : ∀ i, f i ≤ 1 := fun i => by rw [hfe]; exact onN_le
    have hsum : sumD pn sq0.length (onN pn sq0 xs1) = sumR (pn ^ sq0.length) f := by rw [hfe]; rfl
    rw [hsum]
    have HF := Lib.hid hfe; clear hfe hsum
    have hp0 : 0 < pn := by omega
    have hpw := pow_bd (p := pn) (n := sq0.length) (by omega) (by omega)
    have hpp : 0 < pn ^ sq0.length := Nat.pow_pos hp0
    go_enter Try.func7, Try.ntmps7
    go_wp2_with fail
    refine hcon.mono ?_; rintro e w1 ⟨rfl, hb1⟩
    rw [← hW] at hb1
    clear hW hcon
    have d00 := kept hb1 d00; have d01 := kept hb1 d01; have hx0 := hx0.below hb1; have hx1 := hx1.below hb1
    have hz := hb1.size
    have hzW := hbW.size
    have hnew := made_own (W := w1) (n := sq0.length) (by omega)
    go_wp2
    go_loopw [8] (fun t wr => ∃ m : Nat, m < pn ^ sq0.length ∧ t = .int .i64 (sumR m f) ∧ OwnI wr w1.heap.size w1.heap.size sq0.length sq0.length (digL pn sq0.length m) ∧ Below w1.heap.size w1 wr)
      (fun _ wr => pn ^ sq0.length - valL pn (readW wr w1.heap.size sq0.length))
    case atStart => exact ⟨0, hpp, rfl, by rw [digL_zero]; exact hnew, (by repeat (first | exact Below.refl _ _ | apply blw_drew | apply blw_alloc | (refine blw_set ?_ (by first | omega | (simp; done) | (simp; omega)) _) | refine below_chain ?_ (by assumption)))⟩
    case round =>
      obtain ⟨m, hm, rfl, hown, hbr⟩ := hrel
      have hrd := Lib.hid hown.read
      have hv2 : isV pn sq0 (digL pn sq0.length m) = true := isV_iff.2 ⟨digL_len _ _, digL_fp hp0 _ _⟩
      have hsb := sumR_le hf1 m
      have X0 := hx0.below hbr
      have X1 := hx1.below hbr
      have k0 := kept hbr d00
      have k1 := kept hbr d01
      have hc := son_c h1 (by omega) X0 X1 hown.sl hv hv2
      have hon : (onL pn sq0 xs1 (digL pn sq0.length m) = true ∧ f m = 1) ∨ (onL pn sq0 xs1 (digL pn sq0.length m) = false ∧ f m = 0) := by
        have e : f m = onN pn sq0 xs1 (digL pn sq0.length m) := by rw [HF.out]
        unfold onN at e
        cases h : onL pn sq0 xs1 (digL pn sq0.length m) <;> simp [h] at e <;> simp [e]
      rcases hon with ⟨hon, hfv⟩ | ⟨hon, hfv⟩
      all_goals
        rw [hon] at hc
        have hsf : sumR (m + 1) f = sumR m f + f m := rfl
        rw [hfv] at hsf
        have HS := Lib.hid hsf; clear hsf hon hfv
        go_wp2_with fail
        refine hc.mono ?_; rintro e w2 ⟨rfl, hb2⟩
        have hown := hown.below hb2
        have k0 := kept hb2 k0
        have k1 := kept hb2 k1
        have hbr := below_chain hbr hb2
        clear hc X0 X1
        go_wp2_with fail
        go_loopw [9] (fun i wx => ∃ c q : Nat, c ≤ sq0.length ∧ i = .int .i64 c ∧ m + 1 = (q + 1) * pn ^ c ∧ q < pn ^ (sq0.length - c) ∧ OwnI wx w1.heap.size w1.heap.size sq0.length sq0.length (List.replicate c 0 ++ digL pn (sq0.length - c) q) ∧ Below w1.heap.size w1 wx)
          (fun i _ => sq0.length - (intOf i).toNat)
        case atStart => exact ⟨0, m, Nat.zero_le _, rfl, by simp, by simpa using hm, by simpa using hown, hbr⟩
        case round =>
          obtain ⟨c, q, hc, rfl, hmc, hqc, hown, hbr⟩ := hrel
          have k0 := kept hbr d00
          have k1 := kept hbr d01
          by_cases hlt : c < sq0.length
          · obtain ⟨r, hr⟩ : ∃ r, sq0.length = c + (r + 1) := ⟨sq0.length - c - 1, by omega⟩
            have hdig : digL pn (sq0.length - c) q = ((q % pn : Nat) : Int) :: digL pn r (q / pn) := by rw [show sq0.length - c = r + 1 by omega]; rfl
            rw [hdig] at hown
            have hat := hown.at c (by rw [hown.len]; omega)
            have hgt := fwd_get (l1 := List.replicate c 0) (l2 := digL pn r (q / pn)) (a := ((q % pn : Nat) : Int))
            rw [List.length_replicate] at hgt
            rw [Nat.zero_add, hgt] at hat
            have hbd : Below wr.heap.size wr wr.drew := (by repeat (first | exact Below.refl _ _ | apply blw_drew | apply blw_alloc | (refine blw_set ?_ (by first | omega | (simp; done) | (simp; omega)) _) | refine below_chain ?_ (by assumption)))
            have hat := kept hbd hat
            have k0 := kept hbd k0; have k1 := kept hbd k1; have hown := hown.below hbd
            have hset := fun b => hown.set (i := c) b
            have hrs := fun b => fwd_set (l1 := List.replicate c (0 : Int)) (l2 := digL pn r (q / pn)) (a := ((q % pn : Nat) : Int)) (b := b)
            simp only [List.length_replicate] at hrs
            simp only [hrs] at hset
            have hfree := hown.free c
            have hqm := Nat.mod_lt q hp0
            have hglt := hown.lt
            have H := Lib.hid (And.intro hr (And.intro hdig hgt)); clear hr hdig hgt hrs
            by_cases heq : q % pn + 1 = pn
            · have hb1' : (((q % pn : Nat) : Int) == (pn : Int) - 1) = true := by rw [beq_iff_eq]; omega
              go_wp2
              refine region_flow [(false, [(0, 0), (1, 0), (2, 0), (3, 0), (4, 0), (5, 0), (6, 0), (7, 0), (8, 1), (9, 0), (10, 1), (11, 0), (12, 0), (13, 0)])] (by kernel_rfl) ?_
              refine norm_K fun K hK => ?_
              change wpList _ _ _ [_, _, _, _, _, _, _, _, _, _, _, _, _, _] _ _
              go_wp2_with fail
              first | (refine hK _ _ ⟨rfl, ?_⟩; clear hK K) | refine ⟨rfl, ?_⟩
              go_wp2
              go_roundw
              case rel =>
                have e2 : sq0.length - (c + 1) = r := by have := H.out.1; omega
                have e3 : List.replicate (c + 1) (0 : Int) ++ digL pn r (q / pn) = List.replicate c 0 ++ 0 :: digL pn r (q / pn) := by
                  rw [List.replicate_succ', List.append_assoc]; rfl
                refine ⟨c + 1, q / pn, by omega, by go_num, carry_step hp0 hlt hmc heq, ?_, ?_, ?_⟩
                · rw [show sq0.length - c = r + 1 by have := H.out.1; omega, Nat.pow_succ] at hqc
                  rw [e2, Nat.div_lt_iff_lt_mul hp0]; exact hqc
                · rw [e2, e3]; exact hset 0
                · exact blw_set hbr.drew (Nat.le_refl _) _
              case measure => simp [intOf] <;> omega
            · have hb2' : (((q % pn : Nat) : Int) == (pn : Int) - 1) = false := by rw [beq_eq_false_iff_ne]; omega
              go_wp2
              refine region_flow [(false, [(0, 0), (1, 0), (2, 0), (3, 0), (4, 0), (5, 0), (6, 0), (7, 0), (8, 1), (9, 0), (10, 1), (11, 0), (12, 0), (13, 0)])] (by kernel_rfl) ?_
              refine norm_K fun K hK => ?_
              change wpList _ _ _ [_, _, _, _, _, _, _, _, _, _, _, _, _, _] _ _
              go_wp2_with fail
              first | (refine hK _ _ ⟨rfl, ?_⟩; clear hK K) | refine ⟨rfl, ?_⟩
              go_wp2
              go_roundw
              case rel =>
                have hdg : digL pn sq0.length (m + 1) = List.replicate c 0 ++ (((q % pn : Nat) : Int) + 1) :: digL pn r (q / pn) := by
                  rw [hmc, H.out.1, digL_carry hp0, digL_next hp0 (by omega)]
                refine ⟨m + 1, carry_last (by omega) hlt hqc hmc (by omega), by rw [HS.out]; first | rfl | go_num, ?_, ?_⟩
                · rw [hdg]; exact hset _
                · exact blw_set hbr.drew (Nat.le_refl _) _
              case measure =>
                have hdg : digL pn sq0.length (m + 1) = List.replicate c 0 ++ (((q % pn : Nat) : Int) + 1) :: digL pn r (q / pn) := by
                  rw [hmc, H.out.1, digL_carry hp0, digL_next hp0 (by omega)]
                have hl := carry_last (by omega) hlt hqc hmc (by omega)
                have hn2 := hset (((q % pn : Nat) : Int) + 1)
                rw [← hdg] at hn2
                have hn3 := hn2.read
                rw [Int.natCast_emod] at hn3
                have hn4 : readW (wr.setCell ⟨w1.heap.size, c, none⟩ (.int .i64 ((q : Int) % pn + 1))).drew w1.heap.size sq0.length = _ := hn3
                rw [hn4, hrd.out, valL_dig hp0 _ _ hl, valL_dig hp0 _ _ hm]
                omega
          · obtain rfl : c = sq0.length := by omega
            have hq0 : q = 0 := by rw [Nat.sub_self] at hqc; simpa using hqc
            have hmp : m + 1 = pn ^ sq0.length := by rw [hmc, hq0]; simp
            clear hmc hqc hq0
            have H := Lib.hid hmp; clear hmp
            go_wp2
            refine region_flow [(false, [(0, 0), (1, 0), (2, 0), (3, 0), (4, 0), (5, 0), (6, 0), (7, 0), (8, 1), (9, 0), (10, 1), (11, 0), (12, 0), (13, 0)])] (by kernel_rfl) ?_
            refine norm_K fun K hK => ?_
            change wpList _ _ _ [_, _, _, _, _, _, _, _, _, _, _, _, _, _] _ _
            go_wp2_with fail
            first | (refine hK _ _ ⟨rfl, ?_⟩; clear hK K) | refine ⟨rfl, ?_⟩
            go_wp2
            go_ret2
            exact ⟨by rw [← H.out, HS.out]; first | rfl | simp, below_chain hbW (below_chain hb1 hbr.drew)⟩
  · rw [show RCountOnSphere0 p0 sq0 xs1 = 0 from if_neg h0, show RCountOnSphere1 p0 sq0 xs1 = chkP p0 sq0 [] [xs1] from rfl]
    obtain ⟨k, hk⟩ : ∃ k, k = chkP p0 sq0 [] [xs1] := ⟨_, rfl⟩
    rw [← hk] at h0 hcon ⊢
    clear hk
    have hne : (k == 0) = false := by simpa using h0
    go_enter Try.func7, Try.ntmps7
    go_wp2_with fail
    refine hcon.mono ?_; rintro e w1 ⟨rfl, hb1⟩
    rw [← hW] at hb1
    clear hW hcon
    go_wp2_with fail
    go_ret2
    exact ⟨rfl, (by repeat (first | exact Below.refl _ _ | apply blw_drew | apply blw_alloc | (refine blw_set ?_ (by first | omega | (simp; done) | (simp; omega)) _) | refine below_chain ?_ (by assumption)))⟩
end Go.Proofs.Ytklnpikkkekonaa
