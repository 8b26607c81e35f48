/-
  Isometries and forms of a doubling: program and reference, walked.
-/
import Derived.Test.YtgkceadllcjeoaaTgA
namespace Go.Proofs.Ytgkceadllcjeoaa
open Go.RowKit

def isoG (p : Int) (dg : List Int) (M : List (List Int)) (i k : Nat) : Bool := (dotK p dg (colL M i) (colL M k) - if i = k then dg.getD i 0 else 0) % p == 0
set_option maxHeartbeats 4000000 in
theorem keeps_c {p : Int} {s m : Value} {st : List Int} {M : List (List Int)} {w : World} (hd : Dok p st) (hs : El w s st) (hr : Re w m M) (hM : matB p (sz st.length) M = true) :
    Calls Try.prog 59 #[.agg #[.int .i64 p, s], m] w fun e w' => e = .returned (.bool (isoK p (diagF p st) M)) ∧ Below w.heap.size w w' := by
  have hp1 := hd.hp.lo; have hp2 := hd.hp.hi; have hl3 := hd.hl; have hsz := sz_le hd
  obtain ⟨hMl, hMw⟩ := matB_iff.1 hM
  obtain ⟨a0, c0, rfl, _⟩ := id hs.op
  obtain ⟨bm, om, cm, rfl, hT⟩ := Re.tb hr hMl (by omega) (fun r h => (hMw r h).1)
  have hAb : ∀ i k, 0 ≤ (M.getD i []).getD k 0 ∧ (M.getD i []).getD k 0 < p := fun i k => by
    by_cases h : i < M.length
    · exact (hMw _ (get_mem h)).2.g0 (by omega) k
    · rw [show M.getD i [] = [] by rw [List.getD_eq_getElem?_getD, List.getElem?_eq_none (by omega)]; rfl]
      simp; omega
  have hDb : ∀ i, 0 ≤ (diagF p st).getD i 0 ∧ (diagF p st).getD i 0 < p := fun i => (diagF_fp (p := p) (st := st) (by omega)).g0 (by omega) i
  have hcl : ∀ i, (colL M i).length = sz st.length := fun i => (colL_ev (by omega) hM i).1
  have hca : ∀ i r, r < sz st.length → (colL M i).getD r 0 = (M.getD r []).getD i 0 := fun i r h => by
    rw [colL_at (by omega), List.getD_eq_getElem?_getD (l := M), List.getElem?_eq_getElem (by omega)]; rfl
  have hdl := diagF_len (p := p) (st := st)
  have hG : ∀ i k, isoG p (diagF p st) M i k = ((sumF (fun r => (M.getD r []).getD i 0 * (M.getD r []).getD k 0 % p * (diagF p st).getD r 0) (sz st.length) - if i = k then (diagF p st).getD i 0 else 0) % p == 0) := fun i k => by
    unfold isoG
    rw [dotK_sum hdl (hcl i) (hcl k), sumF_congr (fun r hr => by rw [hca i r hr, hca k r hr])]
  have hK : isoK p (diagF p st) M = ((List.range (sz st.length)).all fun i => (List.range (sz st.length)).all (isoG p (diagF p st) M i)) := by unfold isoK; rw [hMl]; rfl
  obtain ⟨G, hG_⟩ : ∃ G, G = isoG p (diagF p st) M := ⟨_, rfl⟩
  simp only [← hG_] at hG hK
  obtain ⟨A, hA⟩ : ∃ A : Nat → Nat → Int, A = fun i k => (M.getD i []).getD k 0 := ⟨_, rfl⟩
  have hAe : ∀ i k, (M.getD i []).getD k 0 = A i k := fun i k => by rw [hA]
  obtain ⟨D, hD_⟩ : ∃ D : Nat → Int, D = fun i => (diagF p st).getD i 0 := ⟨_, rfl⟩
  have hDe : ∀ i, (diagF p st).getD i 0 = D i := fun i => by rw [hD_]
  simp only [hAe, hDe] at hG hAb hDb
  have hT := hT.congr (G := A) (fun i _ k _ => hAe i k)
  obtain ⟨n, hn⟩ : ∃ n, n = sz st.length := ⟨_, rfl⟩
  simp only [← hn] at hsz hG hK hT hdl ⊢
  have HG := Lib.hid hG; have HK := Lib.hid hK; have HDL := Lib.hid hdl; have HDE := Lib.hid hDe; have HAB := Lib.hid hAb; have HDB := Lib.hid hDb
  clear hn hG hK hcl hca hdl hAe hDe hA hD_ hG_ hMl hAb hDb
  go_enter Try.func59, Try.ntmps59
  have hb0 : Below w.heap.size w (w.alloc (.cells #[.int .i64 p, .slice a0 st.length c0] 26)) := (by repeat (first | exact .refl _ _ | apply bwD | apply bwA | (refine bwS ?_ (by first | omega | simp <;> omega) _) | refine bwC ?_ (by assumption)))
  have hs := hs.below hb0; have hT := hT.below hb0
  have d0 : (w.alloc (.cells #[.int .i64 p, .slice a0 st.length c0] 26)).cell? ⟨w.heap.size, 0, none⟩ = some (.int .i64 p) := by simp [go_sem]
  have d1 : (w.alloc (.cells #[.int .i64 p, .slice a0 st.length c0] 26)).cell? ⟨w.heap.size, 1, none⟩ = some (.slice a0 st.length c0) := by simp [go_sem]
  go_wp2_with fail
  refine (diag_c hd hs).mono ?_; rintro e w1 ⟨vd, rfl, hD, hb1⟩
  have hs := hs.below hb1; have hT := hT.below hb1; have d0 := kept hb1 d0; have d1 := kept hb1 d1
  obtain ⟨gd, kd, rfl, hDo⟩ := id hD
  rw [HDL.out] at hDo ⊢
  have hDc : ∀ i, i < n → w1.cell? ⟨gd, i, none⟩ = some (.int .i64 (D i)) := fun i hi => by
    have := hDo.hold hi
    rw [HDE.out] at this
    exact this
  have HDC := Lib.hid hDc
  have hbx : Below w.heap.size w w1 := (by repeat (first | exact .refl _ _ | apply bwD | apply bwA | (refine bwS ?_ (by first | omega | simp <;> omega) _) | refine bwC ?_ (by assumption)))
  clear hD hDo hDc
  go_wp2_with fail
  go_loopw [14] (fun i wr => ∃ k : Nat, k ≤ n ∧ i = .int .i64 k ∧ ((List.range k).all fun i => (List.range n).all (G i)) = true ∧ Below w1.heap.size w1 wr) (fun i _ => n - (intOf i).toNat)
  case atStart => exact ⟨0, Nat.zero_le _, rfl, rfl, Below.refl _ _⟩
  case round =>
    obtain ⟨k, hk, rfl, hall, hb⟩ := hrel
    by_cases hlt : k < n
    · have HALL := Lib.hid hall; clear hall
      generalize wr = wo at *
      go_wp2_with fail
      go_loopw [19] (fun i wr => ∃ j : Nat, j ≤ n ∧ i = .int .i64 j ∧ (List.range j).all (G k) = true ∧ Below wo.heap.size wo wr) (fun i _ => n - (intOf i).toNat)
      case atStart => exact ⟨0, Nat.zero_le _, rfl, rfl, Below.refl _ _⟩
      case round =>
        obtain ⟨j, hj, rfl, hal2, hb5⟩ := hrel
        by_cases hlt2 : j < n
        · have HAL2 := Lib.hid hal2; clear hal2
          obtain ⟨f, hf⟩ : ∃ f : Nat → Int, f = fun r => A r k * A r j % p * D r := ⟨_, rfl⟩
          have hfb : ∀ r, 0 ≤ f r ∧ f r ≤ 169 := fun r => by
            rw [hf]
            have h1 := mod_fp (p := p) (x := A r k * A r j) (by omega)
            have h2 := HDB.out r
            exact mul_b (by omega) (by omega)
          have hg := HG.out k j
          rw [← hf] at hg
          have hfe : ∀ r, A r k * A r j % p * D r = f r := fun r => by rw [hf]
          have HF := Lib.hid hfe; have HFB := Lib.hid hfb; have HGG := Lib.hid hg
          clear hf hfe hfb hg
          generalize wr = wp at *
          go_wp2_with fail
          go_loopw [8, 24] (fun o i wr => ∃ r : Nat, r ≤ n ∧ i = .int .i64 r ∧ o = .int .i64 (sumF f r) ∧ Below wp.heap.size wp wr) (fun _ i _ => n - (intOf i).toNat)
          case atStart => exact ⟨0, Nat.zero_le _, rfl, rfl, Below.refl _ _⟩
          case round =>
            obtain ⟨r, hr, rfl, rfl, hb6⟩ := hrel
            have hbc := bwC hb (bwC hb5 hb6)
            have hT := hT.below hbc; have d0 := kept hbc d0; have d1 := kept hbc d1
            have hsb := sumF_bd (f := f) (B := 169) (n := r) (fun x _ => HFB.out x)
            by_cases hlt3 : r < n
            · obtain ⟨b2, o2, c2, hcr, hcA⟩ := hT r hlt3
              have hc1 := hcA k hlt; have hc2 := hcA j hlt2
              have hc3 := kept hbc (HDC.out r hlt3)
              have hs1 : Hid (sumF f (r + 1) = sumF f r + A r k * A r j % p * D r) := Lib.hid (by show sumF f r + f r = _; rw [HF.out])
              have b1 := HAB.out r k; have b2_ := HAB.out r j; have b3 := HDB.out r
              obtain ⟨x, hx⟩ : ∃ x, x = A r k := ⟨_, rfl⟩
              obtain ⟨y, hy⟩ : ∃ y, y = A r j := ⟨_, rfl⟩
              obtain ⟨z, hz⟩ : ∃ z, z = D r := ⟨_, rfl⟩
              obtain ⟨S, hS⟩ : ∃ S, S = sumF f r := ⟨_, rfl⟩
              rw [← hx] at hc1 b1 hs1; rw [← hy] at hc2 b2_ hs1; rw [← hz] at hc3 b3 hs1; rw [← hS] at hsb hs1 ⊢
              have m1 := mulb (k := x) (y := y) (A := 13) (B := 13) (by omega) (by omega) (by omega) (by omega)
              have q1 := mod_fp (p := p) (x := x * y) (by omega)
              have m2 := mulb (k := x * y % p) (y := z) (A := 13) (B := 13) (by omega) (by omega) (by omega) (by omega)
              clear hT hcA hx hy hz hS
              go_wp2_with fail
              go_wp2_with fail
              refine region_flowP [(2, 1, []), (18, 1, [2]), (18, 6, [17, 9, 8]), (18, 9, [17]), (18, 13, [17, 16, 15]), (18, 16, [17])] [(false, [(0, 0), (1, 1), (3, 0), (4, 0), (5, 0), (6, 1), (7, 0), (8, 0), (9, 1), (10, 0), (11, 0), (12, 0), (13, 1), (14, 0), (15, 0), (16, 1), (17, 0), (19, 0), (20, 0), (21, 0), (22, 1), (2, 5)]), (false, [(18, 5)]), (false, [(23, 0), (24, 0), (25, 0)])] (by kernel_rfl) ?_
              refine norm_K fun K hK => ?_
              change wpList _ _ _ [_, _, _, _, _, _, _, _, _, _, _, _, _, _, _, _, _, _, _, _, _, _] _ _
              have hb21 : Below wr.heap.size wr wr.drew := (by repeat (first | exact .refl _ _ | apply bwD | apply bwA | (refine bwS ?_ (by first | omega | simp <;> omega) _) | refine bwC ?_ (by assumption)))
              have d0 := kept hb21 d0; have d1 := kept hb21 d1; have hcr := kept hb21 hcr; have hc1 := kept hb21 hc1; have hc2 := kept hb21 hc2; have hc3 := kept hb21 hc3
              generalize wr.drew = wq at *
              go_wp2_with fail
              refine (dfield_c).mono ?_; rintro e w22 ⟨rfl, hb22⟩
              have d0 := kept hb22 d0; have d1 := kept hb22 d1; have hcr := kept hb22 hcr; have hc1 := kept hb22 hc1; have hc2 := kept hb22 hc2; have hc3 := kept hb22 hc3
              go_wp2_with fail
              have hz0 : Below wq.heap.size wq w22 := (by repeat (first | exact .refl _ _ | apply bwD | apply bwA | (refine bwS ?_ (by first | omega | simp <;> omega) _) | refine bwC ?_ (by assumption)))
              first | (refine hK _ _ ⟨hz0, ?_⟩; clear hK K) | refine ⟨hz0, ?_⟩
              clear hz0
              refine norm_K fun K hK => ?_
              change wpList _ _ _ [_] _ _
              go_wp2_with fail
              refine (num_c (by omega) (by omega)).mono ?_; rintro e w23 ⟨rfl, rfl⟩
              go_wp2_with fail
              have hz1 : Below wq.heap.size wq w22 := (by repeat (first | exact .refl _ _ | apply bwD | apply bwA | (refine bwS ?_ (by first | omega | simp <;> omega) _) | refine bwC ?_ (by assumption)))
              first | (refine hK _ _ ⟨hz1, ?_⟩; clear hK K) | refine ⟨hz1, ?_⟩
              clear hz1
              refine norm_K fun K hK => ?_
              change wpList _ _ _ [_, _, _] _ _
              go_wp2_with fail
              first | (refine hK _ _ ⟨rfl, ?_⟩; clear hK K) | refine ⟨rfl, ?_⟩
              have hby : Below wr.heap.size wr w22 := (by repeat (first | exact .refl _ _ | apply bwD | apply bwA | (refine bwS ?_ (by first | omega | simp <;> omega) _) | refine bwC ?_ (by assumption)))
              go_wp2_with fail
              go_roundw
              case rel => exact ⟨r + 1, by omega, by go_num, by rw [hs1.out], bwC hb6 hby⟩
              case measure => simp [intOf]; omega
            · obtain rfl : r = n := by omega
              obtain ⟨S, hS⟩ : ∃ S, S = sumF f r := ⟨_, rfl⟩
              have hg := HGG.out
              rw [← hS] at hsb hg ⊢
              have hck := kept hbc (HDC.out k hlt)
              have b3 := HDB.out k
              obtain ⟨z, hz⟩ : ∃ z, z = D k := ⟨_, rfl⟩
              rw [← hz] at hck b3 hg
              obtain ⟨b, hb_⟩ : ∃ b, b = G k j := ⟨_, rfl⟩
              rw [← hb_] at hg
              have HB := Lib.hid hb_
              clear hS hz hb_ hT
              by_cases hkj : k = j
              · subst hkj
                rw [if_pos rfl] at hg
                have q1 := mod_fp (p := p) (x := S - z) (by omega)
                obtain ⟨q, hq⟩ : ∃ q, q = (S - z) % p := ⟨_, rfl⟩
                rw [← hq] at hg q1
                have HQ := Lib.hid hq; have HG3 := Lib.hid hg
                clear hq hg
                go_wp2_with fail
                refine dfield_c.mono ?_; rintro e w7 ⟨rfl, hb7⟩
                go_wp2_with fail
                refine (num_c (by omega) (by omega)).mono ?_; rintro e w8 ⟨rfl, rfl⟩
                rw [← HQ.out]
                cases b
                · have hne : (q != 0) = true := by have := HG3.out; rw [bne_iff_ne]; intro e; rw [e] at this; cases this
                  go_wp2_with fail
                  go_ret
                  exact ⟨by rw [HK.out, all2_no hlt hlt HB.out.symm]; rfl, bwC hbx (bwC hbc hb7)⟩
                · have hq0 : q = 0 := by have := HG3.out; simpa using this.symm
                  have hne : (q != 0) = false := by rw [hq0]; rfl
                  clear hq0
                  go_wp2_with fail
                  go_roundw
                  case rel => exact ⟨k + 1, by omega, by go_num, by rw [all_succ, HAL2.out, ← HB.out]; rfl, bwC hb5 (bwC hb6 hb7)⟩
                  case measure => simp [intOf]; omega
              · have hke : ((k : Int) == (j : Int)) = false := by rw [beq_eq_false_iff_ne]; omega
                rw [if_neg hkj, Int.sub_zero] at hg
                have q1 := mod_fp (p := p) (x := S) (by omega)
                obtain ⟨q, hq⟩ : ∃ q, q = S % p := ⟨_, rfl⟩
                rw [← hq] at hg q1
                have HQ := Lib.hid hq; have HG3 := Lib.hid hg
                clear hq hg
                go_wp2_with fail
                refine dfield_c.mono ?_; rintro e w7 ⟨rfl, hb7⟩
                go_wp2_with fail
                refine (num_c (by omega) (by omega)).mono ?_; rintro e w8 ⟨rfl, rfl⟩
                rw [← HQ.out]
                cases b
                · have hne : (q != 0) = true := by have := HG3.out; rw [bne_iff_ne]; intro e; rw [e] at this; cases this
                  go_wp2_with fail
                  go_ret
                  exact ⟨by rw [HK.out, all2_no hlt hlt2 HB.out.symm]; rfl, bwC hbx (bwC hbc hb7)⟩
                · have hq0 : q = 0 := by have := HG3.out; simpa using this.symm
                  have hne : (q != 0) = false := by rw [hq0]; rfl
                  clear hq0
                  go_wp2_with fail
                  go_roundw
                  case rel => exact ⟨j + 1, by omega, by go_num, by rw [all_succ, HAL2.out, ← HB.out]; rfl, bwC hb5 (bwC hb6 hb7)⟩
                  case measure => simp [intOf]; omega
        · obtain rfl : j = n := by omega
          have HAL2 := Lib.hid hal2; clear hal2
          go_wp2_with fail
          go_roundw
          case rel => exact ⟨k + 1, by omega, by go_num, by rw [all_succ, HALL.out, HAL2.out]; rfl, bwC hb hb5⟩
          case measure => simp [intOf]; omega
    · obtain rfl : k = n := by omega
      have HALL := Lib.hid hall; clear hall
      go_wp2_with fail
      go_ret
      exact ⟨by rw [HK.out, HALL.out]; rfl, bwC hbx hb⟩
end Go.Proofs.Ytgkceadllcjeoaa
