/-
  Whether a matrix is skew: the program's test, walked.
-/
import Derived.Test.YtfcdhdkhfdhjfaaJbf
namespace Go.Proofs.Ytfcdhdkhfdhjfaa
open Go.RowKit

set_option maxHeartbeats 4000000 in
set_option maxRecDepth 100000 in
theorem iskew_c {p : Int} {s m : Value} {st : List Int} {M : List (List Int)} {w : World} (hd : Dok p st) (hs : El w s st) (hr : Re w m M) (hM : matB p (sz st.length) M = true) :
    Calls Try.prog 27 #[.agg #[.int .i64 p, s], m] w fun e w' => e = .returned (.bool (skewK p (diagF p st) M)) ∧ Below w.heap.size w w' := by
  have hp1 := hd.hp.lo; have hp2 := hd.hp.hi; have hl3 := hd.hl; have hsz := sz_le hd
  obtain ⟨hMl, hMw⟩ := matB_iff.1 hM
  obtain ⟨a0, c0, rfl, _⟩ := id hs.op
  obtain ⟨bm, om, cm, rfl, hT⟩ := Re.tb hr hMl (by omega) (fun r h => (hMw r h).1)
  have hAb := entry_b (by omega : 2 ≤ p) hM
  have hdl := diagF_len (p := p) (st := st)
  have hDb : ∀ i, 0 ≤ (diagF p st).getD i 0 ∧ (diagF p st).getD i 0 < p := fun i => (diagF_fp (p := p) (st := st) (by omega)).g0 (by omega) i
  have hG : ∀ i k, skG p (diagF p st) M i k = (((M.getD i []).getD k 0 * (diagF p st).getD i 0 + (M.getD k []).getD i 0 * (diagF p st).getD k 0) % p == 0) := fun _ _ => rfl
  have hB : skewK p (diagF p st) M = ((List.range (sz st.length)).all fun i => (List.range (sz st.length)).all (skG p (diagF p st) M i)) := by unfold skewK; rw [hMl]; rfl
  have hno : ∀ i k, i < sz st.length → k < sz st.length → skG p (diagF p st) M i k = false → skewK p (diagF p st) M = false := fun i k hi hk h => by
    rw [hB]
    exact List.all_eq_false.2 ⟨i, List.mem_range.2 hi, by rw [List.all_eq_false.2 ⟨k, List.mem_range.2 hk, by rw [h]; decide⟩]; decide⟩
  obtain ⟨G, hG_⟩ : ∃ G, G = skG p (diagF p st) M := ⟨_, rfl⟩
  simp only [← hG_] at hG hB hno
  obtain ⟨A, hA⟩ : ∃ A : Nat → Nat → Int, A = fun i k => (M.getD i []).getD k 0 := ⟨_, rfl⟩
  have hAe : ∀ i k, (M.getD i []).getD k 0 = A i k := fun i k => by rw [hA]
  obtain ⟨D, hD_⟩ : ∃ D : Nat → Int, D = fun i => (diagF p st).getD i 0 := ⟨_, rfl⟩
  have hDe : ∀ i, (diagF p st).getD i 0 = D i := fun i => by rw [hD_]
  simp only [hAe, hDe] at hG hAb hDb
  have hT := hT.congr (G := A) (fun i _ k _ => hAe i k)
  obtain ⟨n, hn⟩ : ∃ n, n = sz st.length := ⟨_, rfl⟩
  simp only [← hn] at hsz hB hno hdl hT ⊢
  have HG := Lib.hid hG; have HB_ := Lib.hid hB; have HNO := Lib.hid hno; have HDL := Lib.hid hdl; have HDB := Lib.hid hDb; have HAB := Lib.hid hAb; have HDE := Lib.hid hDe
  clear hn hG hB hno hdl hDb hAb hDe hG_ hA hAe hD_ hMl
  go_enter Try.func27, Try.ntmps27
  have hb0 : Below w.heap.size w (w.alloc (.cells #[.int .i64 p, .slice a0 st.length c0] 32)) := (by repeat (first | exact .refl _ _ | apply bwD | apply bwA | (refine bwS ?_ (by first | omega | simp <;> omega) _) | refine bwC ?_ (by assumption)))
  have hs := hs.below hb0; have hT := hT.below hb0
  have d0 : (w.alloc (.cells #[.int .i64 p, .slice a0 st.length c0] 32)).cell? ⟨w.heap.size, 0, none⟩ = some (.int .i64 p) := by simp [go_sem]
  have d1 : (w.alloc (.cells #[.int .i64 p, .slice a0 st.length c0] 32)).cell? ⟨w.heap.size, 1, none⟩ = some (.slice a0 st.length c0) := by simp [go_sem]
  go_wp2_with fail
  refine (diag_c hd hs).mono ?_; rintro e w1 ⟨vd, rfl, hD, hb1⟩
  have hs := hs.below hb1; have hT := hT.below hb1; have d0 := kept hb1 d0; have d1 := kept hb1 d1
  obtain ⟨gd, kd, rfl, hDo⟩ := id hD
  rw [HDL.out] at hDo ⊢
  have hDc : ∀ i, i < n → w1.cell? ⟨gd, i, none⟩ = some (.int .i64 (D i)) := fun i hi => by
    have := hDo.hold hi
    rw [HDE.out] at this
    exact this
  have HDC := Lib.hid hDc
  have hbx : Below w.heap.size w w1 := (by repeat (first | exact .refl _ _ | apply bwD | apply bwA | (refine bwS ?_ (by first | omega | simp <;> omega) _) | refine bwC ?_ (by assumption)))
  clear hD hDo hDc
  go_wp2_with fail
  go_loopw [12] (fun i wr => ∃ k : Nat, k ≤ n ∧ i = .int .i64 k ∧ ((List.range k).all fun i => (List.range n).all (G i)) = true ∧ Below w1.heap.size w1 wr) (fun i _ => n - (intOf i).toNat)
  case atStart => exact ⟨0, Nat.zero_le _, rfl, rfl, Below.refl _ _⟩
  case round =>
    obtain ⟨k, hk, rfl, hall, hb⟩ := hrel
    by_cases hlt : k < n
    · have HALL := Lib.hid hall; clear hall
      generalize wr = wo at *
      go_wp2_with fail
      go_loopw [17] (fun i wr => ∃ j : Nat, j ≤ n ∧ i = .int .i64 j ∧ (List.range j).all (G k) = true ∧ Below wo.heap.size wo wr) (fun i _ => n - (intOf i).toNat)
      case atStart => exact ⟨0, Nat.zero_le _, rfl, rfl, Below.refl _ _⟩
      case round =>
        obtain ⟨j, hj, rfl, hal2, hb5⟩ := hrel
        by_cases hlt2 : j < n
        · have HAL2 := Lib.hid hal2; clear hal2
          have hjn : j < n := hlt2
          have hbc := bwC hb hb5
          have hT := hT.below hbc; have d0 := kept hbc d0; have d1 := kept hbc d1
          obtain ⟨b2, o2, c2, hcr, hcA⟩ := hT k hlt
          obtain ⟨b3, o3, c3, hcr2, hcA2⟩ := hT j hjn
          have hc1 := hcA j hjn; have hc2 := hcA2 k hlt
          have hc3 := kept hbc (HDC.out k hlt); have hc4 := kept hbc (HDC.out j hjn)
          have b1 := HAB.out k j; have b2_ := HAB.out j k; have b3_ := HDB.out k; have b4 := HDB.out j
          have hg := HG.out k j
          obtain ⟨x, hx⟩ : ∃ x, x = A k j := ⟨_, rfl⟩
          obtain ⟨y, hy⟩ : ∃ y, y = A j k := ⟨_, rfl⟩
          obtain ⟨z, hz⟩ : ∃ z, z = D k := ⟨_, rfl⟩
          obtain ⟨u, hu⟩ : ∃ u, u = D j := ⟨_, rfl⟩
          rw [← hx] at hc1 b1 hg; rw [← hy] at hc2 b2_ hg; rw [← hz] at hc3 b3_ hg; rw [← hu] at hc4 b4 hg
          obtain ⟨t, ht⟩ : ∃ t, t = (x * z + y * u) % p := ⟨_, rfl⟩
          rw [← ht] at hg
          obtain ⟨b, hb_⟩ : ∃ b, b = G k j := ⟨_, rfl⟩
          rw [← hb_] at hg
          have HN := Lib.hid (bne_not hg); have HT := Lib.hid ht; have HBB := Lib.hid hb_
          have m1 := mulb (k := x) (y := z) (A := 13) (B := 13) (by omega) (by omega) (by omega) (by omega)
          have m2 := mulb (k := y) (y := u) (A := 13) (B := 13) (by omega) (by omega) (by omega) (by omega)
          clear hx hy hz hu ht hb_ hg hcA hcA2 hT hbc
          go_wp2_with fail
          go_wp2_with fail
          refine region_flowP [(1, 0, []), (27, 0, [1]), (27, 5, [26, 13, 8, 7]), (27, 8, [26, 13]), (27, 12, [26, 13]), (27, 17, [26, 25, 20, 19]), (27, 20, [26, 25]), (27, 24, [26, 25])] [(false, [(0, 1), (2, 0), (3, 0), (4, 0), (5, 1), (6, 0), (7, 0), (8, 1), (9, 0), (10, 0), (11, 0), (12, 1), (13, 0), (14, 0), (15, 0), (16, 0), (17, 1), (18, 0), (19, 0), (20, 1), (21, 0), (22, 0), (23, 0), (24, 1), (25, 0), (26, 0), (1, 5)]), (false, [(27, 4), (28, 0)])] (by kernel_rfl) ?_
          refine norm_K fun K hK => ?_
          change wpList _ _ _ [_, _, _, _, _, _, _, _, _, _, _, _, _, _, _, _, _, _, _, _, _, _, _, _, _, _, _] _ _
          have hb21 : Below wr.heap.size wr wr.drew := (by repeat (first | exact .refl _ _ | apply bwD | apply bwA | (refine bwS ?_ (by first | omega | simp <;> omega) _) | refine bwC ?_ (by assumption)))
          have d0 := kept hb21 d0; have d1 := kept hb21 d1; have hcr := kept hb21 hcr; have hcr2 := kept hb21 hcr2; have hc1 := kept hb21 hc1; have hc2 := kept hb21 hc2; have hc3 := kept hb21 hc3; have hc4 := kept hb21 hc4
          generalize wr.drew = wq at *
          go_wp2_with fail
          refine (dfield_c).mono ?_; rintro e w22 ⟨rfl, hb22⟩
          have d0 := kept hb22 d0; have d1 := kept hb22 d1; have hcr := kept hb22 hcr; have hcr2 := kept hb22 hcr2; have hc1 := kept hb22 hc1; have hc2 := kept hb22 hc2; have hc3 := kept hb22 hc3; have hc4 := kept hb22 hc4
          go_wp2_with fail
          have hz0 : Below wq.heap.size wq w22 := (by repeat (first | exact .refl _ _ | apply bwD | apply bwA | (refine bwS ?_ (by first | omega | simp <;> omega) _) | refine bwC ?_ (by assumption)))
          first | (refine hK _ _ ⟨hz0, ?_⟩; clear hK K) | refine ⟨hz0, ?_⟩
          clear hz0
          refine norm_K fun K hK => ?_
          change wpList _ _ _ [_, _] _ _
          go_wp2_with fail
          refine (num_c (by omega) (by omega)).mono ?_; rintro e w23 ⟨rfl, rfl⟩
          rw [← HT.out]
          have hbz : Below wr.heap.size wr w22 := (by repeat (first | exact .refl _ _ | apply bwD | apply bwA | (refine bwS ?_ (by first | omega | simp <;> omega) _) | refine bwC ?_ (by assumption)))
          cases b
          · have hne : (t != 0) = true := HN.out
            go_wp2_with fail
            first | (refine hK _ _ ⟨rfl, ?_⟩; clear hK K) | refine ⟨rfl, ?_⟩
            go_wp2_with fail
            go_ret
            exact ⟨by rw [HNO.out k j hlt hlt2 HBB.out.symm]; rfl, bwC hbx (bwC hb (bwC hb5 hbz))⟩
          · have hne : (t != 0) = false := HN.out
            go_wp2_with fail
            first | (refine hK _ _ ⟨rfl, ?_⟩; clear hK K) | refine ⟨rfl, ?_⟩
            go_wp2_with fail
            go_roundw
            case rel => exact ⟨j + 1, by omega, by go_num, by rw [all_succ, HAL2.out, ← HBB.out]; rfl, bwC hb5 hbz⟩
            case measure => first | (simp [intOf]; done) | (simp [intOf]; omega)
        · obtain rfl : j = n := by omega
          have HAL2 := Lib.hid hal2; clear hal2
          go_wp2_with fail
          go_roundw
          case rel => exact ⟨k + 1, by omega, by go_num, by rw [all_succ, HALL.out, HAL2.out]; rfl, bwC hb hb5⟩
          case measure => simp [intOf]; omega
    · obtain rfl : k = n := by omega
      have HALL := Lib.hid hall; clear hall
      go_wp2_with fail
      go_ret
      exact ⟨by rw [HB_.out, HALL.out]; rfl, bwC hbx hb⟩
end Go.Proofs.Ytfcdhdkhfdhjfaa
