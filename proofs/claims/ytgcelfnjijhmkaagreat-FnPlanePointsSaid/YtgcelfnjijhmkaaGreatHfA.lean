/-
  The laws' helpers on drawn matrices: comparison of what is equal; products, sums, determinants, pairings of checked ones.
-/
import Derived.Test.YtgcelfnjijhmkaaGreatJbb
import Derived.Test.YtgcelfnjijhmkaaGreatJbc
import Derived.Test.YtgcelfnjijhmkaaGreatJbf
namespace Go.Proofs.YtgcelfnjijhmkaaGreat
open Go.RowKit

theorem OwH.frh {w : World} {B : Nat} {v : Value} {X : Her} (h : OwH w B v X) (h3 : X.dg.length = 3) : FrH w B v X := by
  rcases h with ⟨_, rfl⟩ | h
  · simp at h3
  · exact h
theorem isH_len {p : Int} {n : Nat} {X : Her} (h : isH p n X = true) : X.dg.length = 3 ∧ X.up.length = 3 := by
  obtain ⟨a, b, c, u, v, t, rfl, _⟩ := isH_op h
  exact ⟨rfl, rfl⟩
theorem isH_hsz {p : Int} {st : List Int} {X : Her} (hd : Dok p st) (h : isH p (sz st.length) X = true) : Hsz X := by
  obtain ⟨a, b, c, u, v, t, e, _, _, _, _, _, _, hu, hv, ht⟩ := isH_op h
  rw [e]
  have h16 := pow_le (n := st.length) (by have := hd.hl; omega)
  refine ⟨by show 3 ≤ _; decide, by show 3 ≤ _; decide, fun xs hx => ?_⟩
  have hx : xs = u ∨ xs = v ∨ xs = t := by simpa using hx
  rcases hx with rfl | rfl | rfl
  · rw [hu.1]; omega
  · rw [hv.1]; omega
  · rw [ht.1]; omega
theorem FrH.shape {w : World} {B : Nat} {v : Value} {X : Her} (h : FrH w B v X) : ∃ g c g2 c2, v = .agg #[.slice (some ⟨g, 0, none⟩) X.dg.length c, .slice (some ⟨g2, 0, none⟩) X.up.length c2] := by
  obtain ⟨d, u, us, rfl, ⟨g, c, rfl, _⟩, hu, _⟩ := h
  obtain ⟨g2, c2, rfl, _, h2, _⟩ := hu
  exact ⟨g, c, g2, c2, by rw [h2]⟩
theorem like_c0 {x y : Value} {xs ys : List Int} {w : World} (hx : Sl w x xs) (hy : Sl w y ys) (hm : xs.length ≤ 1048576) :
    Calls Tryz.prog 12 #[x, y] w fun e w' => e = .returned (.bool (decide (xs = ys))) ∧ Below w.heap.size w w' := by
  by_cases hl : ys.length = xs.length
  · rcases two_rows hx hy hl with ⟨rfl, rfl, a, c, a2, c2, rfl, rfl⟩ | ⟨b, off, c, b2, off2, c2, rfl, rfl, hx, hy⟩
    · go_enter Tryz.func12, Tryz.ntmps12
      go_wp2
      refine wp_loop_rounds 1 ?_; rw [rounds_succ]
      go_wp2
      go_ret
      exact ⟨rfl, Below.refl _ _⟩
    have HL := Lib.hid hl; clear hl
    go_enter Tryz.func12, Tryz.ntmps12
    go_wp2
    go_loopw [5] (fun i wr => ∃ m : Nat, m ≤ xs.length ∧ i = .int .i64 m ∧ xs.take m = ys.take m ∧ Below w.heap.size w wr)
      (fun i _ => xs.length - (intOf i).toNat)
    case atStart => exact ⟨0, Nat.zero_le _, rfl, rfl, Below.refl _ _⟩
    case round =>
      obtain ⟨m, hm', rfl, heq, hb⟩ := hrel
      by_cases hlt : m < xs.length
      · obtain ⟨u, hxm, hcx, htx⟩ := (hx.below hb).get hlt
        have hlt2 : m < ys.length := by rw [HL.out]; exact hlt
        obtain ⟨z, hym, hcy, hty⟩ := (hy.below hb).get hlt2
        have H := Lib.hid (And.intro htx (And.intro hty heq)); clear htx hty heq
        by_cases huz : u = z
        · subst huz
          go_wp2
          refine region_flow [(false, [(0, 0), (1, 0), (2, 0), (3, 1), (4, 0), (5, 0), (6, 0), (7, 1), (8, 0)])] (by kernel_rfl) ?_
          refine norm_K fun K hK => ?_
          change wpList _ _ _ [_, _, _, _, _, _, _, _, _] _ _
          go_wp2
          first | (refine hK _ _ ⟨rfl, ?_⟩; clear hK K) | refine ⟨rfl, ?_⟩
          go_wp2
          go_roundw
          case rel => exact ⟨m + 1, by omega, by go_num, by rw [H.out.1, H.out.2.1, H.out.2.2], hb.drew⟩
          case measure => simp [intOf]; omega
        · have hd : decide (xs = ys) = false := by
            refine decide_eq_false fun he => huz ?_
            have h1 : xs.take (m + 1) = ys.take (m + 1) := by rw [he]
            rw [H.out.1, H.out.2.1, H.out.2.2] at h1
            have h2 := congrArg List.getLast? (List.append_cancel_left h1)
            simpa using h2
          have hne : (u != z) = true := by simpa using huz
          have HD := Lib.hid hd; clear hd
          go_wp2
          refine region_flow [(false, [(0, 0), (1, 0), (2, 0), (3, 1), (4, 0), (5, 0), (6, 0), (7, 1), (8, 0)])] (by kernel_rfl) ?_
          refine norm_K fun K hK => ?_
          change wpList _ _ _ [_, _, _, _, _, _, _, _, _] _ _
          go_wp2
          first | (refine hK _ _ ⟨rfl, ?_⟩; clear hK K) | refine ⟨rfl, ?_⟩
          go_wp2
          go_ret
          exact ⟨by rw [HD.out]; rfl, hb.drew⟩
      · obtain rfl : m = xs.length := by omega
        rw [take_all (Nat.le_refl _), take_all (by rw [HL.out]; exact Nat.le_refl _)] at heq
        have hd : decide (xs = ys) = true := decide_eq_true heq
        have HD := Lib.hid hd; clear hd heq
        go_wp2
        go_ret
        exact ⟨by rw [HD.out]; rfl, hb⟩
  · obtain ⟨a, c, rfl, _⟩ := hx
    obtain ⟨a2, c2, rfl, _⟩ := hy
    have hd : decide (xs = ys) = false := decide_eq_false fun he => hl (by rw [he])
    have hne : ((xs.length : Int) != (ys.length : Int)) = true := by rw [bne_iff_ne]; omega
    have HD := Lib.hid hd; clear hd
    go_enter Tryz.func12, Tryz.ntmps12
    go_wp2
    go_ret
    exact ⟨by rw [HD.out]; rfl, Below.refl _ _⟩
theorem like_c {x y : Value} {xs : List Int} {w : World} (hx : Sl w x xs) (hy : Sl w y xs) (hm : xs.length ≤ 1048576) :
    Calls Tryz.prog 12 #[x, y] w fun e w' => e = .returned (.bool true) ∧ Below w.heap.size w w' := by
  have h := like_c0 hx hy hm
  rwa [decide_eq_true rfl] at h
theorem same9_c {x y : Value} {xss : List (List Int)} {w : World} (hx : Rs w x xss) (hy : Rs w y xss) (hm : xss.length ≤ 1048576) (hr : ∀ xs ∈ xss, xs.length ≤ 1048576) :
    Calls Tryz.prog 39 #[x, y] w fun e w' => e = .returned (.bool true) ∧ Below w.heap.size w w' := by
  obtain ⟨a, c, rfl, hx⟩ := hx
  obtain ⟨a2, c2, rfl, hy⟩ := hy
  rcases hx with rfl | ⟨b, off, rfl, hx⟩
  · go_enter Tryz.func39, Tryz.ntmps39
    go_wp2
    refine wp_loop_rounds 1 ?_; rw [rounds_succ]
    go_wp2
    go_ret
    exact ⟨rfl, Below.refl _ _⟩
  rcases hy with rfl | ⟨b2, off2, rfl, hy⟩
  · go_enter Tryz.func39, Tryz.ntmps39
    go_wp2
    refine wp_loop_rounds 1 ?_; rw [rounds_succ]
    go_wp2
    go_ret
    exact ⟨rfl, Below.refl _ _⟩
  go_enter Tryz.func39, Tryz.ntmps39
  go_wp2
  go_loopw [5] (fun i wr => ∃ m : Nat, m ≤ xss.length ∧ i = .int .i64 m ∧ Below w.heap.size w wr)
    (fun i _ => xss.length - (intOf i).toNat)
  case atStart => exact ⟨0, Nat.zero_le _, rfl, Below.refl _ _⟩
  case round =>
    obtain ⟨m, hm', rfl, hb⟩ := hrel
    by_cases hlt : m < xss.length
    · obtain ⟨u, hc, hs⟩ := hx m hlt
      obtain ⟨u2, hc2, hs2⟩ := hy m hlt
      have hc := kept hb hc
      have hs := hs.below hb
      have hc2 := kept hb hc2
      have hs2 := hs2.below hb
      have hxl := hr _ (List.getElem_mem hlt)
      obtain ⟨q, hq⟩ : ∃ q, q = xss[m] := ⟨_, rfl⟩
      rw [← hq] at hs hs2 hxl
      clear hq
      go_wp2
      refine region_flow [(false, [(0, 0), (1, 0), (2, 0), (3, 1), (4, 0), (5, 0), (6, 0), (7, 1), (8, 4), (9, 0)])] (by kernel_rfl) ?_
      refine norm_K fun K hK => ?_
      change wpList _ _ _ [_, _, _, _, _, _, _, _, _, _] _ _
      go_wp2_with fail
      refine (like_c (hs.below (by repeat (first | exact .refl _ _ | apply bwD | apply bwA | (refine bwS ?_ (by first | omega | simp <;> omega) _) | refine bwC ?_ (by assumption)))) (hs2.below (by repeat (first | exact .refl _ _ | apply bwD | apply bwA | (refine bwS ?_ (by first | omega | simp <;> omega) _) | refine bwC ?_ (by assumption)))) hxl).mono ?_; rintro e w2 ⟨rfl, hb2⟩
      go_wp2_with fail
      first | (refine hK _ _ ⟨rfl, ?_⟩; clear hK K) | refine ⟨rfl, ?_⟩
      go_wp2
      go_roundw
      case rel => exact ⟨m + 1, by omega, by go_num, bwC hb.drew hb2⟩
      case measure => simp [intOf]; omega
    · obtain rfl : m = xss.length := by omega
      go_wp2
      go_ret
      exact ⟨rfl, hb⟩
theorem herm9_c {x y : Value} {X : Her} {w : World} (hx : Hv w x X) (hy : Hv w y X) (hz : Hsz X) :
    Calls Tryz.prog 9 #[x, y] w fun e w' => e = .returned (.bool true) ∧ Below w.heap.size w w' := by
  obtain ⟨dv1, uv1, rfl, h1, h2⟩ := Hv.hr hx; obtain ⟨a1, c1, rfl, _⟩ := id h1; obtain ⟨b1, k1, rfl, _⟩ := id h2
  obtain ⟨dv2, uv2, rfl, h3, h4⟩ := Hv.hr hy; obtain ⟨a2, c2, rfl, _⟩ := id h3; obtain ⟨b2, k2, rfl, _⟩ := id h4
  go_enter Tryz.func9, Tryz.ntmps9
  have hb0 : Below w.heap.size w ((w.alloc (.cells #[.slice a1 X.dg.length c1, .slice b1 X.up.length k1] 31)).alloc (.cells #[.slice a2 X.dg.length c2, .slice b2 X.up.length k2] 31)) := (by repeat (first | exact .refl _ _ | apply bwD | apply bwA | (refine bwS ?_ (by first | omega | simp <;> omega) _) | refine bwC ?_ (by assumption)))
  have h1 := h1.below hb0; have h2 := h2.below hb0; have h3 := h3.below hb0; have h4 := h4.below hb0
  have e0 : ((w.alloc (.cells #[.slice a1 X.dg.length c1, .slice b1 X.up.length k1] 31)).alloc (.cells #[.slice a2 X.dg.length c2, .slice b2 X.up.length k2] 31)).cell? ⟨w.heap.size, 0, none⟩ = some (.slice a1 X.dg.length c1) := by simp [go_sem]
  have e1 : ((w.alloc (.cells #[.slice a1 X.dg.length c1, .slice b1 X.up.length k1] 31)).alloc (.cells #[.slice a2 X.dg.length c2, .slice b2 X.up.length k2] 31)).cell? ⟨w.heap.size, 1, none⟩ = some (.slice b1 X.up.length k1) := by simp [go_sem]
  have f0 : ((w.alloc (.cells #[.slice a1 X.dg.length c1, .slice b1 X.up.length k1] 31)).alloc (.cells #[.slice a2 X.dg.length c2, .slice b2 X.up.length k2] 31)).cell? ⟨w.heap.size + 1, 0, none⟩ = some (.slice a2 X.dg.length c2) := by simp [go_sem]
  have f1 : ((w.alloc (.cells #[.slice a1 X.dg.length c1, .slice b1 X.up.length k1] 31)).alloc (.cells #[.slice a2 X.dg.length c2, .slice b2 X.up.length k2] 31)).cell? ⟨w.heap.size + 1, 1, none⟩ = some (.slice b2 X.up.length k2) := by simp [go_sem]
  go_wp2_with fail
  refine (like_c h1 h3 hz.h1).mono ?_; rintro e w1 ⟨rfl, hb1⟩
  have h1 := h1.below hb1; have h2 := h2.below hb1; have h3 := h3.below hb1; have h4 := h4.below hb1; have e0 := kept hb1 e0; have e1 := kept hb1 e1; have f0 := kept hb1 f0; have f1 := kept hb1 f1
  go_wp2_with fail
  refine (same9_c h2 h4 hz.h2 hz.h3).mono ?_; rintro e w2 ⟨rfl, hb2⟩
  have h1 := h1.below hb2; have h2 := h2.below hb2; have h3 := h3.below hb2; have h4 := h4.below hb2; have e0 := kept hb2 e0; have e1 := kept hb2 e1; have f0 := kept hb2 f0; have f1 := kept hb2 f1
  go_wp2_with fail
  go_ret
  exact ⟨rfl, (by repeat (first | exact .refl _ _ | apply bwD | apply bwA | (refine bwS ?_ (by first | omega | simp <;> omega) _) | refine bwC ?_ (by assumption)))⟩
theorem sumH_mod {p k n : Int} {X Y : Her} (h : k % p = n % p) : sumH p X k Y = sumH p X n Y := by
  have h : ∀ xs ys : List Int, plusL p xs ys k = plusL p xs ys n := fun xs ys => plusL_cong h
  unfold sumH
  simp only [h]
theorem rem9 {n p : Int} (hp1 : 3 ≤ p) (hp2 : p ≤ 13) : 0 ≤ (wrap64 (n.tmod p + p)).tmod p ∧ (wrap64 (n.tmod p + p)).tmod p < p ∧ (wrap64 (n.tmod p + p)).tmod p % p = n % p := by
  have h1 := Int.mul_tdiv_add_tmod n p
  have h2 : n.tmod p < p := Int.tmod_lt_of_pos n (by omega)
  have h3 : -p < n.tmod p := by
    have := Int.tmod_lt_of_pos (-n) (show (0 : Int) < p by omega)
    rw [Int.neg_tmod] at this
    omega
  obtain ⟨r, hr⟩ : ∃ r, r = n.tmod p := ⟨_, rfl⟩
  rw [← hr] at h1 h2 h3 ⊢
  have hw : wrap64 (r + p) = r + p := by simp only [wrap64]; omega
  rw [hw, Int.tmod_eq_emod_of_nonneg (by omega)]
  refine ⟨Int.emod_nonneg _ (by omega), Int.emod_lt_of_pos _ (by omega), ?_⟩
  rw [Int.emod_emod_of_dvd _ (Int.dvd_refl p), ← h1, Int.add_emod_right, Int.add_comm, Int.add_mul_emod_self_left]
set_option maxHeartbeats 4000000 in
set_option maxRecDepth 100000 in
theorem sum9_c {p n : Int} {s x y : Value} {st : List Int} {X Y : Her} {w : World} (hd : Dok p st) (hs : El w s st) (hx : Hv w x X) (hX : isH p (sz st.length) X = true) (hy : Hv w y Y) (hY : isH p (sz st.length) Y = true) (hn1 : -1000000 ≤ n) (hn2 : n ≤ 1000000) :
    Calls Tryz.prog 20 #[.agg #[.int .i64 p, s], x, .int .i64 n, y] w fun e w' => ∃ v, e = .returned v ∧ FrH w' w.heap.size v (sumH p X n Y) ∧ Below w.heap.size w w' := by
  have hl := hd.hl
  have hp1 := hd.hp.lo
  have hp2 := hd.hp.hi
  have hZ := isH_hsz hd hX
  have hZ2 := isH_hsz hd hY
  have h0 : chkH p st [X, Y] = 0 := chkH_ok hd (by simp [hX, hY])
  have h3 := (isH_len (sumH_is (p := p) (k := n) (by omega) hX hY)).1
  have hcon := fun W (h0 : El W s st) (h1 : Hv W x X) (h2 : Hv W y Y) (k : Int) (hk0 : 0 ≤ k) (hk1 : k < p) => iJordanSum_c (w := W) (p0 := p) (n2 := k) h0 (by omega) h1 hZ (by omega) (by omega) h2 hZ2
  have hR : ∀ k, 0 ≤ k → k < p → k % p = n % p → RJordanSum1 p st X k Y = 0 ∧ RJordanSum0 p st X k Y = sumH p X n Y := by
    intro k hk0 hk1 hk2
    have e : RJordanSum1 p st X k Y = 0 := by
      unfold RJordanSum1
      rw [if_pos h0, if_pos]
      unfold inR
      simp; omega
    exact ⟨e, by unfold RJordanSum0; rw [if_pos e, sumH_mod hk2]⟩
  obtain ⟨Z, hn⟩ : ∃ Z, Z = sumH p X n Y := ⟨_, rfl⟩
  simp only [← hn] at hR h3 ⊢
  clear hn
  have H3 := Lib.hid h3; clear h3
  obtain ⟨a0, c0, rfl, _⟩ := id hs.op
  obtain ⟨dv1, uv1, rfl, hd1_, hu1_⟩ := id hx; obtain ⟨a1, c1, rfl, _⟩ := id hd1_.op; obtain ⟨b1, k1, rfl, _⟩ := id hu1_
  obtain ⟨dv2, uv2, rfl, hd2_, hu2_⟩ := id hy; obtain ⟨a2, c2, rfl, _⟩ := id hd2_.op; obtain ⟨b2, k2, rfl, _⟩ := id hu2_
  go_enter Tryz.func20, Tryz.ntmps20
  have hb0 : Below w.heap.size w ((((w.alloc (.cells #[.int .i64 p, .slice a0 st.length c0] 26)).alloc (.cells #[.slice a1 X.dg.length c1, .slice b1 X.up.length k1] 31)).alloc (.cells #[.slice a2 Y.dg.length c2, .slice b2 Y.up.length k2] 31)).alloc (.cells #[.slice none 0 0, .slice none 0 0] 31)) := (by repeat (first | exact .refl _ _ | apply bwD | apply bwA | (refine bwS ?_ (by first | omega | simp <;> omega) _) | refine bwC ?_ (by assumption)))
  have hs := hs.below hb0; have hx := hx.below hb0; have hy := hy.below hb0
  have d0 : ((((w.alloc (.cells #[.int .i64 p, .slice a0 st.length c0] 26)).alloc (.cells #[.slice a1 X.dg.length c1, .slice b1 X.up.length k1] 31)).alloc (.cells #[.slice a2 Y.dg.length c2, .slice b2 Y.up.length k2] 31)).alloc (.cells #[.slice none 0 0, .slice none 0 0] 31)).cell? ⟨w.heap.size, 0, none⟩ = some (.int .i64 p) := by simp [go_sem]
  have d1 : ((((w.alloc (.cells #[.int .i64 p, .slice a0 st.length c0] 26)).alloc (.cells #[.slice a1 X.dg.length c1, .slice b1 X.up.length k1] 31)).alloc (.cells #[.slice a2 Y.dg.length c2, .slice b2 Y.up.length k2] 31)).alloc (.cells #[.slice none 0 0, .slice none 0 0] 31)).cell? ⟨w.heap.size, 1, none⟩ = some (.slice a0 st.length c0) := by simp [go_sem]
  have e0 : ((((w.alloc (.cells #[.int .i64 p, .slice a0 st.length c0] 26)).alloc (.cells #[.slice a1 X.dg.length c1, .slice b1 X.up.length k1] 31)).alloc (.cells #[.slice a2 Y.dg.length c2, .slice b2 Y.up.length k2] 31)).alloc (.cells #[.slice none 0 0, .slice none 0 0] 31)).cell? ⟨w.heap.size + 1, 0, none⟩ = some (.slice a1 X.dg.length c1) := by simp [go_sem]
  have e1 : ((((w.alloc (.cells #[.int .i64 p, .slice a0 st.length c0] 26)).alloc (.cells #[.slice a1 X.dg.length c1, .slice b1 X.up.length k1] 31)).alloc (.cells #[.slice a2 Y.dg.length c2, .slice b2 Y.up.length k2] 31)).alloc (.cells #[.slice none 0 0, .slice none 0 0] 31)).cell? ⟨w.heap.size + 1, 1, none⟩ = some (.slice b1 X.up.length k1) := by simp [go_sem]
  have f0 : ((((w.alloc (.cells #[.int .i64 p, .slice a0 st.length c0] 26)).alloc (.cells #[.slice a1 X.dg.length c1, .slice b1 X.up.length k1] 31)).alloc (.cells #[.slice a2 Y.dg.length c2, .slice b2 Y.up.length k2] 31)).alloc (.cells #[.slice none 0 0, .slice none 0 0] 31)).cell? ⟨w.heap.size + 1 + 1, 0, none⟩ = some (.slice a2 Y.dg.length c2) := by simp [go_sem]
  have f1 : ((((w.alloc (.cells #[.int .i64 p, .slice a0 st.length c0] 26)).alloc (.cells #[.slice a1 X.dg.length c1, .slice b1 X.up.length k1] 31)).alloc (.cells #[.slice a2 Y.dg.length c2, .slice b2 Y.up.length k2] 31)).alloc (.cells #[.slice none 0 0, .slice none 0 0] 31)).cell? ⟨w.heap.size + 1 + 1, 1, none⟩ = some (.slice b2 Y.up.length k2) := by simp [go_sem]
  have r0 : ((((w.alloc (.cells #[.int .i64 p, .slice a0 st.length c0] 26)).alloc (.cells #[.slice a1 X.dg.length c1, .slice b1 X.up.length k1] 31)).alloc (.cells #[.slice a2 Y.dg.length c2, .slice b2 Y.up.length k2] 31)).alloc (.cells #[.slice none 0 0, .slice none 0 0] 31)).cell? ⟨w.heap.size + 1 + 1 + 1, 0, none⟩ = some (.slice none 0 0) := by simp [go_sem]
  have r1 : ((((w.alloc (.cells #[.int .i64 p, .slice a0 st.length c0] 26)).alloc (.cells #[.slice a1 X.dg.length c1, .slice b1 X.up.length k1] 31)).alloc (.cells #[.slice a2 Y.dg.length c2, .slice b2 Y.up.length k2] 31)).alloc (.cells #[.slice none 0 0, .slice none 0 0] 31)).cell? ⟨w.heap.size + 1 + 1 + 1, 1, none⟩ = some (.slice none 0 0) := by simp [go_sem]
  have hr : Bx ((((w.alloc (.cells #[.int .i64 p, .slice a0 st.length c0] 26)).alloc (.cells #[.slice a1 X.dg.length c1, .slice b1 X.up.length k1] 31)).alloc (.cells #[.slice a2 Y.dg.length c2, .slice b2 Y.up.length k2] 31)).alloc (.cells #[.slice none 0 0, .slice none 0 0] 31)) (w.heap.size + 1 + 1 + 1) (.slice none 0 0) (.slice none 0 0) := by rw [show w.heap.size + 1 + 1 + 1 = (((w.alloc (.cells #[.int .i64 p, .slice a0 st.length c0] 26)).alloc (.cells #[.slice a1 X.dg.length c1, .slice b1 X.up.length k1] 31)).alloc (.cells #[.slice a2 Y.dg.length c2, .slice b2 Y.up.length k2] 31)).heap.size by simp]; exact heap_alloc_new _ _
  have hzA : w.heap.size + 1 + 1 + 1 + 1 = (((((w.alloc (.cells #[.int .i64 p, .slice a0 st.length c0] 26)).alloc (.cells #[.slice a1 X.dg.length c1, .slice b1 X.up.length k1] 31)).alloc (.cells #[.slice a2 Y.dg.length c2, .slice b2 Y.up.length k2] 31)).alloc (.cells #[.slice none 0 0, .slice none 0 0] 31))).heap.size := by simp
  have HZA := Lib.hid hzA; clear hzA
  have hbw0 : Below w.heap.size w ((((w.alloc (.cells #[.int .i64 p, .slice a0 st.length c0] 26)).alloc (.cells #[.slice a1 X.dg.length c1, .slice b1 X.up.length k1] 31)).alloc (.cells #[.slice a2 Y.dg.length c2, .slice b2 Y.up.length k2] 31)).alloc (.cells #[.slice none 0 0, .slice none 0 0] 31)) := (by repeat (first | exact .refl _ _ | apply bwD | apply bwA | (refine bwS ?_ (by first | omega | simp <;> omega) _) | refine bwC ?_ (by assumption)))
  go_upto_region 1 with fail
  obtain ⟨W0, hW0⟩ : ∃ W, W = ((((w.alloc (.cells #[.int .i64 p, .slice a0 st.length c0] 26)).alloc (.cells #[.slice a1 X.dg.length c1, .slice b1 X.up.length k1] 31)).alloc (.cells #[.slice a2 Y.dg.length c2, .slice b2 Y.up.length k2] 31)).alloc (.cells #[.slice none 0 0, .slice none 0 0] 31)) := ⟨_, rfl⟩
  rw [← hW0] at hbw0 hs hx hy d0 d1 e0 e1 f0 f1 hr HZA ⊢
  clear hW0
  refine region_flows [(0, 1), (1, 1), (2, 0), (3, 0), (4, 1), (5, 0), (6, 0), (7, 1), (8, 0), (9, 0), (10, 1), (11, 0), (12, 1)] [[(true, [(13, 3)]), (false, [(14, 0), (15, 0), (16, 0), (17, 5)]), (false, [(18, 4), (19, 0)])], [(false, [(17, 5)]), (true, [(13, 3)]), (false, [(14, 0), (15, 0), (16, 0), (18, 4), (19, 0)])]] (by kernel_rfl) ?_
  refine norm_K fun K hK => ?_
  change wpList _ _ _ [_, _, _, _, _, _, _, _, _, _, _, _, _] _ _
  have hbq : Below W0.heap.size W0 W0.drew := (by repeat (first | exact .refl _ _ | apply bwD | apply bwA | (refine bwS ?_ (by first | omega | simp <;> omega) _) | refine bwC ?_ (by assumption)))
  have hs := hs.below hbq; have hx := hx.below hbq; have hy := hy.below hbq; have d0 := kept hbq d0; have d1 := kept hbq d1; have e0 := kept hbq e0; have e1 := kept hbq e1; have f0 := kept hbq f0; have f1 := kept hbq f1; have hr := hr.below hbq
  have hzq : w.heap.size + 1 + 1 + 1 + 1 ≤ W0.drew.heap.size := by have := HZA.out; show _ ≤ W0.heap.size; omega
  have HZQ := Lib.hid hzq; clear hzq
  have hbwq := hbw0.trans (hbq.mono (by have := HZA.out; omega))
  clear hbq hbw0 HZA
  generalize W0.drew = wq at *
  obtain ⟨k, hk⟩ : ∃ k, k = (wrap64 (n.tmod p + p)).tmod p := ⟨_, rfl⟩
  have hkk := rem9 (n := n) hp1 hp2
  rw [← hk] at hkk
  have hRk := hR k hkk.1 hkk.2.1 hkk.2.2
  have hcon := fun W h0 h1 h2 => hcon W h0 h1 h2 k hkk.1 hkk.2.1
  rw [hRk.1, hRk.2] at hcon
  clear hR hRk hkk
  go_wp2_with fail
  refine hK _ _ fun segs hsegs => ?_
  clear hK K
  rw [← hk]
  clear hk
  simp only [List.mem_cons, List.mem_nil_iff, or_false] at hsegs
  rcases hsegs with rfl | rfl
  · skip
    refine norm_K fun K hK => ?_
    change wpList _ _ _ [_] _ _
    go_wp2_with fail
    refine (hcon _ hs hx hy).mono ?_; rintro e w1 ⟨v0, rfl, hv0, hb1⟩
    have hv := hv0.frh H3.out
    obtain ⟨g1, cap1, g2, cap2, rfl⟩ := hv.shape
    go_wp2_with fail
    first | (refine hK _ _ ⟨hb1, ?_⟩; clear hK K) | refine ⟨hb1, ?_⟩
    refine norm_K fun K hK => ?_
    change wpList _ _ _ [_, _, _, _] _ _
    go_wp2_with fail
    first | (refine hK _ _ ⟨hb1.alloc hb1.size _, ?_⟩; clear hK K) | refine ⟨hb1.alloc hb1.size _, ?_⟩
    refine norm_K fun K hK => ?_
    change wpList _ _ _ [_, _] _ _
    have hb2 : Below w1.heap.size w1 (w1.alloc (.cells #[.slice (some ⟨g1, 0, none⟩) Z.dg.length cap1, .slice (some ⟨g2, 0, none⟩) Z.up.length cap2] 31)) := (by repeat (first | exact .refl _ _ | apply bwD | apply bwA | (refine bwS ?_ (by first | omega | simp <;> omega) _) | refine bwC ?_ (by assumption)))
    have hr := (hr.below hb1).below hb2
    have n0 : (w1.alloc (.cells #[.slice (some ⟨g1, 0, none⟩) Z.dg.length cap1, .slice (some ⟨g2, 0, none⟩) Z.up.length cap2] 31)).cell? ⟨w1.heap.size, 0, none⟩ = some (.slice (some ⟨g1, 0, none⟩) Z.dg.length cap1) := by simp [go_sem]
    have n1 : (w1.alloc (.cells #[.slice (some ⟨g1, 0, none⟩) Z.dg.length cap1, .slice (some ⟨g2, 0, none⟩) Z.up.length cap2] 31)).cell? ⟨w1.heap.size, 1, none⟩ = some (.slice (some ⟨g2, 0, none⟩) Z.up.length cap2) := by simp [go_sem]
    have hv := hv.below hb2
    have hbw := (hbwq.trans (hb1.mono (by have := HZQ.out; omega))).trans (hb2.mono (by have := HZQ.out; have := hb1.size; omega))
    have rc0 := hr.c0; have rc1 := hr.c1; have rf0 := hr.f0; have rf1 := hr.f1
    go_wp2_with fail
    first | (refine hK _ _ ⟨rfl, ?_⟩; clear hK K) | refine ⟨rfl, ?_⟩
    go_wp2_with fail
    refine bodyPost_ret (v := .agg #[.slice (some ⟨g1, 0, none⟩) Z.dg.length cap1, .slice (some ⟨g2, 0, none⟩) Z.up.length cap2]) (by simp [results, Tryz.results20, go_sem, rc0, rc1]) rfl ⟨_, rfl, ?_, ?_⟩
    · have hgw := HZQ.out
      exact ((hv.set_ (by show w.heap.size + 1 + 1 + 1 < _; omega) _).set_ (by show w.heap.size + 1 + 1 + 1 < _; omega) _).more (by omega)
    · exact bwS (bwS hbw (by show w.heap.size ≤ w.heap.size + 1 + 1 + 1; omega) _) (by show w.heap.size ≤ w.heap.size + 1 + 1 + 1; omega) _
  · skip
    refine norm_K fun K hK => ?_
    change wpList _ _ _ [_] _ _
    have hb1 : Below wq.heap.size wq (wq.alloc (.cells #[.slice none 0 0, .slice none 0 0] 31)) := (by repeat (first | exact .refl _ _ | apply bwD | apply bwA | (refine bwS ?_ (by first | omega | simp <;> omega) _) | refine bwC ?_ (by assumption)))
    have hs1 := hs.below hb1; have hx1 := hx.below hb1; have hy1 := hy.below hb1; have hr1 := hr.below hb1
    have nb : Bx (wq.alloc (.cells #[.slice none 0 0, .slice none 0 0] 31)) wq.heap.size (.slice none 0 0) (.slice none 0 0) := heap_alloc_new _ _
    have hz1 : wq.heap.size + 1 = (wq.alloc (.cells #[.slice none 0 0, .slice none 0 0] 31)).heap.size := by simp
    have HZ1 := Lib.hid hz1; clear hz1
    go_wp2_with fail
    first | (refine hK _ _ ⟨hb1, ?_⟩; clear hK K) | refine ⟨hb1, ?_⟩
    refine norm_K fun K hK => ?_
    change wpList _ _ _ [_] _ _
    go_wp2_with fail
    refine (hcon _ hs1 hx1 hy1).mono ?_; rintro e w1 ⟨v0, rfl, hv0, hb2⟩
    have hv := hv0.frh H3.out
    obtain ⟨g1, cap1, g2, cap2, rfl⟩ := hv.shape
    have hbq2 : Below wq.heap.size wq w1 := hb1.trans (hb2.mono (by have := HZ1.out; omega))
    have hr := hr1.below hb2
    have nb := nb.below hb2
    have hz2 := hb2.size
    have hbw := hbwq.trans (hbq2.mono (by have := HZQ.out; omega))
    clear hs1 hx1 hy1 hr1 hb1
    go_wp2_with fail
    first | (refine hK _ _ ⟨hb2, ?_⟩; clear hK K) | refine ⟨hb2, ?_⟩
    refine norm_K fun K hK => ?_
    change wpList _ _ _ [_, _, _, _, _] _ _
    have m0 := nb.c0; have m1 := nb.c1; have mf0 := nb.f0; have mf1 := nb.f1
    have rc0 := hr.c0; have rc1 := hr.c1; have rf0 := hr.f0; have rf1 := hr.f1
    go_wp2_with fail
    first | (refine hK _ _ ⟨rfl, ?_⟩; clear hK K) | refine ⟨rfl, ?_⟩
    obtain ⟨N, hN⟩ : ∃ N, N = wq.heap.size := ⟨_, rfl⟩
    have hv2 := (hv.set_ (p := ⟨N, 0, none⟩) (by show N < _; have := HZ1.out; omega) (.slice (some ⟨g1, 0, none⟩) Z.dg.length cap1)).set_ (p := ⟨N, 1, none⟩) (by show N < _; have := HZ1.out; omega) (.slice (some ⟨g2, 0, none⟩) Z.up.length cap2)
    have nb2 := (nb.set0 (.slice (some ⟨g1, 0, none⟩) Z.dg.length cap1)).set1 (.slice (some ⟨g2, 0, none⟩) Z.up.length cap2)
    have hr2 := (hr.far (p := ⟨wq.heap.size, 0, none⟩) (by show w.heap.size + 1 + 1 + 1 ≠ wq.heap.size; have := HZQ.out; omega) (.slice (some ⟨g1, 0, none⟩) Z.dg.length cap1)).far (p := ⟨wq.heap.size, 1, none⟩) (by show w.heap.size + 1 + 1 + 1 ≠ wq.heap.size; have := HZQ.out; omega) (.slice (some ⟨g2, 0, none⟩) Z.up.length cap2)
    have hbw2 := bwS (bwS hbw (show w.heap.size ≤ wq.heap.size by have := HZQ.out; omega) (.slice (some ⟨g1, 0, none⟩) Z.dg.length cap1) (p := ⟨wq.heap.size, 0, none⟩)) (show w.heap.size ≤ wq.heap.size by have := HZQ.out; omega) (.slice (some ⟨g2, 0, none⟩) Z.up.length cap2) (p := ⟨wq.heap.size, 1, none⟩)
    rw [hN] at hv2
    clear m0 m1 mf0 mf1 rc0 rc1 rf0 rf1
    have hzz : w.heap.size + 1 + 1 + 1 + 1 ≤ wq.heap.size := HZQ.out
    have hz1 := HZ1.out
    generalize (w1.setCell ⟨wq.heap.size, 0, none⟩ (.slice (some ⟨g1, 0, none⟩) Z.dg.length cap1)).setCell ⟨wq.heap.size, 1, none⟩ (.slice (some ⟨g2, 0, none⟩) Z.up.length cap2) = wf at *
    rw [← hz1] at hv2
    clear hz1 hN
    have n0 := nb2.c0; have n1 := nb2.c1
    have rc0 := hr2.c0; have rc1 := hr2.c1; have rf0 := hr2.f0; have rf1 := hr2.f1
    go_wp2_with fail
    refine bodyPost_ret (v := .agg #[.slice (some ⟨g1, 0, none⟩) Z.dg.length cap1, .slice (some ⟨g2, 0, none⟩) Z.up.length cap2]) (by simp [results, Tryz.results20, go_sem, rc0, rc1]) rfl ⟨_, rfl, ?_, ?_⟩
    · exact ((hv2.set_ (by show w.heap.size + 1 + 1 + 1 < _; omega) _).set_ (by show w.heap.size + 1 + 1 + 1 < _; omega) _).more (by omega)
    · exact bwS (bwS hbw2 (by show w.heap.size ≤ w.heap.size + 1 + 1 + 1; omega) _) (by show w.heap.size ≤ w.heap.size + 1 + 1 + 1; omega) _
end Go.Proofs.YtgcelfnjijhmkaaGreat
