/-
  Conjugations: the reference's.
-/
import Derived.Test.YtgkceadllcjeoaaCjA
import Derived.Test.YtgkceadllcjeoaaTreeB
namespace Go.Proofs.Ytgkceadllcjeoaa
open Go.RowKit

set_option maxHeartbeats 8000000 in
set_option maxRecDepth 100000 in
theorem scj_c {p : Int} {s x : Value} {st xs : List Int} {w : World} (hs : El w s st) (hm : st.length ≤ 1048576) (hx : El w x xs) (hxl : xs.length ≤ 1048576) :
    Calls Try.prog 20 #[.agg #[.int .i64 p, s], x] w fun e w' => OutM w (RCj0 p st xs) (RCj1 p st xs) e w' := by
  obtain ⟨a0, c0, rfl, _⟩ := id hs.op
  obtain ⟨a1, c1, rfl, _⟩ := id hx.op
  have hchk := fun W l (h1 : El W (.slice a0 st.length c0) st) (h2 : Re W l [xs]) => sl14e_c (w := W) (p := p) h1 h2 hm (by simp) (fun ys h => by rw [List.mem_singleton.1 h]; exact hxl)
  obtain ⟨K, hK⟩ : ∃ K, K = chk3 p st [xs] := ⟨_, rfl⟩
  simp only [← hK] at hchk
  have HK := Lib.hid hK; clear hK
  obtain ⟨R1, hR1⟩ : ∃ r, r = RCj1 p st xs := ⟨_, rfl⟩; obtain ⟨R0, hR0⟩ : ∃ r, r = RCj0 p st xs := ⟨_, rfl⟩
  rw [← hR1, ← hR0]
  have HR := Lib.hid (And.intro hR1 hR0); clear hR1 hR0
  go_enter Try.func20, Try.ntmps20
  have hb0 : Below w.heap.size w (w.alloc (.cells #[.int .i64 p, .slice a0 st.length c0] 26)) := (by repeat (first | exact .refl _ _ | apply bwD | apply bwA | (refine bwS ?_ (by first | omega | simp <;> omega) _) | refine bwC ?_ (by assumption)))
  have hs := hs.below hb0; have hx := hx.below hb0
  have d0 : (w.alloc (.cells #[.int .i64 p, .slice a0 st.length c0] 26)).cell? ⟨w.heap.size, 0, none⟩ = some (.int .i64 p) := by simp [go_sem]
  have d1 : (w.alloc (.cells #[.int .i64 p, .slice a0 st.length c0] 26)).cell? ⟨w.heap.size, 1, none⟩ = some (.slice a0 st.length c0) := by simp [go_sem]
  have hl1 := Re.oneL (k := w.heap.size + 1) hx (by simp)
  have hb1 : Below (w.alloc (.cells #[.int .i64 p, .slice a0 st.length c0] 26)).heap.size (w.alloc (.cells #[.int .i64 p, .slice a0 st.length c0] 26)) ((w.alloc (.cells #[.int .i64 p, .slice a0 st.length c0] 26)).alloc (.cells #[.slice a1 xs.length c1] 24)) := (by repeat (first | exact .refl _ _ | apply bwD | apply bwA | (refine bwS ?_ (by first | omega | simp <;> omega) _) | refine bwC ?_ (by assumption)))
  have hs := hs.below hb1; have hx := hx.below hb1; have d0 := kept hb1 d0; have d1 := kept hb1 d1
  have cx0 : ((w.alloc (.cells #[.int .i64 p, .slice a0 st.length c0] 26)).alloc (.cells #[.slice a1 xs.length c1] 24)).cell? ⟨w.heap.size + 1, 0, none⟩ = some (.slice a1 xs.length c1) := by simp [go_sem]
  go_wp2_with fail
  refine (hchk _ _ hs hl1).mono ?_; rintro e w2 ⟨rfl, hb2⟩
  have hs := hs.below hb2; have hx := hx.below hb2; have d0 := kept hb2 d0; have d1 := kept hb2 d1; have cx0 := kept hb2 cx0; have hl1 := hl1.below hb2
  have hbx : Below w.heap.size w w2 := (by repeat (first | exact .refl _ _ | apply bwD | apply bwA | (refine bwS ?_ (by first | omega | simp <;> omega) _) | refine bwC ?_ (by assumption)))
  clear hchk hl1 cx0
  by_cases hk0 : K = 0
  case neg =>
    have hkb : (K != 0) = true := by simpa using hk0
    have E := Lib.hid (show RCj1 p st xs = K by unfold RCj1; rw [← HK.out, if_neg hk0])
    have E2 := Lib.hid (show RCj0 p st xs = [] by unfold RCj0; rw [E.out, if_neg hk0])
    obtain rfl := HR.out.1.trans E.out; obtain rfl := HR.out.2.trans E2.out
    go_wp2_with fail
    go_ret2
    exact ⟨_, rfl, ReR.nilA (by decide), hbx⟩
  subst hk0
  obtain ⟨hd, hev⟩ := chk3_posA HK.out.symm
  have hev := hev xs (by simp)
  have hl3 := hd.hl; have hsz := sz_le hd; have hp1 := hd.hp.lo; have hp2 := hd.hp.hi
  have h1f : RCj1 p st xs = if normL p st xs = 0 ∨ st.length = 3 then 5 else 0 := by unfold RCj1; rw [← HK.out, if_pos rfl]
  have hnb : 0 ≤ normL p st xs ∧ normL p st xs < p := normL_fp (by omega)
  have hno := fun W (h1 : El W (.slice a0 st.length c0) st) (h2 : El W (.slice a1 xs.length c1) xs) => snorm_c (w := W) (p := p) hd h1 h2 hev
  have hcl := hev.conj (show 1 ≤ p by omega)
  have hcB : scaleL p (conjL p xs) (invL p (normL p st xs)) = cjB p st xs := rfl
  have evB : Ev p (sz st.length) (cjB p st xs) := Ev.scale (by omega) hcl
  have H1F := Lib.hid h1f; clear h1f
  have HEV := Lib.hid hev; clear hev
  by_cases h3 : st.length = 3
  · have E := Lib.hid (show RCj1 p st xs = 5 by rw [H1F.out, if_pos (.inr h3)])
    have E2 := Lib.hid (show RCj0 p st xs = [] by unfold RCj0; rw [E.out, if_neg (by decide)])
    obtain rfl := HR.out.1.trans E.out; obtain rfl := HR.out.2.trans E2.out
    have h3i : (2 : Int) < st.length := by omega
    clear h3 hno hcB
    go_wp2_with fail
    go_ret2
    exact ⟨_, rfl, ReR.nilA (by decide), hbx⟩
  have h3i : ¬ (2 : Int) < st.length := by omega
  obtain ⟨N, hN⟩ : ∃ N, N = normL p st xs := ⟨_, rfl⟩
  rw [← hN] at hnb hcB
  simp only [← hN] at hno
  have HN := Lib.hid hN; clear hN
  go_wp2_with fail
  refine (hno _ hs hx).mono ?_; rintro e w3 ⟨rfl, hb3⟩
  have hs2 := hs; have hx2 := hx; have d02 := d0; have d12 := d1
  have hs := hs.below hb3; have hx := hx.below hb3; have d0 := kept hb3 d0; have d1 := kept hb3 d1
  have hbx3 := hbx.trans (hb3.mono hbx.size)
  have hw23 := hb3.size
  by_cases hn0 : N = 0
  · have hnb0 : (N == 0) = true := by simpa using hn0
    have E := Lib.hid (show RCj1 p st xs = 5 by rw [H1F.out, if_pos (.inl (HN.out.symm.trans hn0))])
    have E2 := Lib.hid (show RCj0 p st xs = [] by unfold RCj0; rw [E.out, if_neg (by decide)])
    obtain rfl := HR.out.1.trans E.out; obtain rfl := HR.out.2.trans E2.out
    clear hn0 hno hcB h3
    go_wp2_with fail
    go_ret2
    exact ⟨_, rfl, ReR.nilA (by decide), hbx3⟩
  have hnb0 : (N == 0) = false := by simpa using hn0
  have E := Lib.hid (show RCj1 p st xs = 0 by rw [H1F.out, if_neg (by rintro (h | h); exact hn0 (HN.out.trans h); exact h3 h)])
  have E2 := Lib.hid (show RCj0 p st xs = cjM p st xs by unfold RCj0; rw [E.out, if_pos rfl])
  obtain rfl := HR.out.1.trans E.out; obtain rfl := HR.out.2.trans E2.out
  have hib := invL_fp (p := p) (a := N) (by omega)
  obtain ⟨V, hV⟩ : ∃ V, V = invL p N := ⟨_, rfl⟩
  rw [← hV] at hcB hib
  have hiv := fun W => sinv_c (w := W) (p := p) (a := N) hd.hp (by omega) (by omega)
  simp only [← hV] at hiv
  obtain ⟨Bv, hBv⟩ : ∃ B, B = cjB p st xs := ⟨_, rfl⟩
  rw [← hBv] at hcB evB
  have HC := Lib.hid hcB; have HBv := Lib.hid hBv; have HEB := Lib.hid evB
  clear hV hcB hBv evB hn0 h3 H1F
  go_upto_region 6 with fail
  go_cut [7, 8] (fun s7 s8 wx => ∃ gb cb gl, s7 = .slice (some ⟨gb, 0, none⟩) Bv.length cb ∧ s8 = .slice (some ⟨gl, 0, none⟩) 0 0 ∧ FrI wx w2.heap.size (.slice (some ⟨gb, 0, none⟩) Bv.length cb) Bv ∧ LsR wx w2.heap.size (.slice (some ⟨gl, 0, none⟩) 0 0) [] [] ∧ gb ≠ gl ∧ w2.heap.size ≤ gl ∧ Below w3.heap.size w3 wx)
  case first =>
    refine region_tq [(0, 0), (1, 1), (2, 0), (3, 1), (4, 1), (5, 0), (8, 0), (9, 1), (10, 0)] (.two 6 5 (.two 7 5 (.two 11 5 (.two 12 5 (.lin [(false, [(14, 0), (13, 5)]), (false, [(15, 0)])]) 13 5 (.lin [(false, [(12, 4), (14, 0), (15, 0)])])) 13 5 (.lin [(false, [(11, 5)]), (false, [(12, 4), (14, 0), (15, 0)])])) 13 5 (.lin [(false, [(7, 5)]), (false, [(11, 5)]), (false, [(12, 4), (14, 0), (15, 0)])])) 13 5 (.lin [(false, [(6, 5)]), (false, [(7, 5)]), (false, [(11, 5)]), (false, [(12, 4), (14, 0), (15, 0)])])) (by kernel_rfl) ?_
    refine norm_K fun K hK => ?_
    change wpList _ _ _ [_, _, _, _, _, _, _, _, _] _ _
    go_wp2_with fail
    have hbq : Below w3.heap.size w3 w3.drew := (by repeat (first | exact .refl _ _ | apply bwD | apply bwA | (refine bwS ?_ (by first | omega | simp <;> omega) _) | refine bwC ?_ (by assumption)))
    have hs := hs.below hbq; have hx := hx.below hbq; have d0 := kept hbq d0; have d1 := kept hbq d1
    have hzz : w2.heap.size ≤ w3.drew.heap.size := hw23
    generalize w3.drew = wq at *
    have hbz : Below wq.heap.size wq wq := Below.refl _ _
    refine hK _ _ ?_; clear hK K
    refine ⟨?_, ?_⟩
    · skip
      refine norm_K fun K hK => ?_
      change wpList _ _ _ [_] _ _
      go_wp2_with fail
      refine (hno _ hs hx).mono ?_; rintro e v1 ⟨rfl, hb_⟩
      have hs := hs.below hb_; have hx := hx.below hb_; have d0 := kept hb_ d0; have d1 := kept hb_ d1; have hbq := hbq.trans (hb_.mono hbq.size); have hbz := hbz.trans (hb_.mono hbz.size); have hzz := Nat.le_trans hzz hb_.size
      go_wp2_with fail
      first | (refine hK _ _ ⟨hbz, ?_⟩; clear hK K) | refine ⟨hbz, ?_⟩
      refine ⟨?_, ?_⟩
      · skip
        refine norm_K fun K hK => ?_
        change wpList _ _ _ [_] _ _
        go_wp2_with fail
        refine (hiv _).mono ?_; rintro e v2 ⟨rfl, rfl⟩
        go_wp2_with fail
        first | (refine hK _ _ ⟨hbz, ?_⟩; clear hK K) | refine ⟨hbz, ?_⟩
        refine ⟨?_, ?_⟩
        · skip
          refine norm_K fun K hK => ?_
          change wpList _ _ _ [_] _ _
          go_wp2_with fail
          refine (sstar_c (by omega) (by omega) hx (by rw [HEV.out.1]; omega) HEV.out.2 (by rw [HEV.out.1]; omega)).mono ?_; rintro e v3 ⟨v_, rfl, hst, hb_⟩
          have hs := hs.below hb_; have hx := hx.below hb_; have d0 := kept hb_ d0; have d1 := kept hb_ d1; have hbq := hbq.trans (hb_.mono hbq.size); have hbz := hbz.trans (hb_.mono hbz.size); have hzz := Nat.le_trans hzz hb_.size
          obtain ⟨a4, c4, rfl, _⟩ := id hst.el.op
          go_wp2_with fail
          first | (refine hK _ _ ⟨hbz, ?_⟩; clear hK K) | refine ⟨hbz, ?_⟩
          refine ⟨?_, ?_⟩
          · skip
            refine norm_K fun K hK => ?_
            change wpList _ _ _ [_] _ _
            go_wp2_with fail
            refine (sscale_c (p := p) (k := V) (by omega) (by omega) (by omega) (by omega) hst.sl (fun y hy => by have := hcl.2 y hy; omega) (by rw [hcl.1]; omega)).mono ?_; rintro e v4 ⟨v_, rfl, hb, hb_⟩
            have hs := hs.below hb_; have hx := hx.below hb_; have d0 := kept hb_ d0; have d1 := kept hb_ d1; have hst := hst.below hb_; have hbq := hbq.trans (hb_.mono hbq.size); have hbz := hbz.trans (hb_.mono hbz.size); have hzz := Nat.le_trans hzz hb_.size
            rw [HC.out] at hb
            obtain ⟨gb, cb, rfl, hbO⟩ := id hb
            have hbl := hbO.lt.2
            have hbl0 := hbO.lt.1
            go_wp2_with fail
            first | (refine hK _ _ ⟨hbz, ?_⟩; clear hK K) | refine ⟨hbz, ?_⟩
            refine norm_K fun K hK => ?_
            change wpList _ _ _ [_, _] _ _
            go_wp2_with fail
            have hb_ : Below v4.heap.size v4 (v4.alloc (.cells #[] 24)) := (by repeat (first | exact .refl _ _ | apply bwD | apply bwA | (refine bwS ?_ (by first | omega | simp <;> omega) _) | refine bwC ?_ (by assumption)))
            have hl := (LsR.new (w := v4) (B := v4.heap.size) (Nat.le_refl _)).more (B' := w2.heap.size) hzz
            have hs := hs.below hb_; have hx := hx.below hb_; have d0 := kept hb_ d0; have d1 := kept hb_ d1; have hst := hst.below hb_; have hb := hb.below hb_; have hbq := hbq.trans (hb_.mono hbq.size); have hbz := hbz.trans (hb_.mono hbz.size); have hzz := Nat.le_trans hzz hb_.size
            have hgl2 : v4.heap.size < (v4.alloc (.cells #[] 24)).heap.size := by simp
            have hgl1 : w2.heap.size ≤ v4.heap.size := by omega
            have hgb : gb < v4.heap.size := hbl
            obtain ⟨gl, hgl_⟩ : ∃ g_, g_ = v4.heap.size := ⟨_, rfl⟩
            obtain ⟨v5, hW_⟩ : ∃ x, x = (v4.alloc (.cells #[] 24)) := ⟨_, rfl⟩
            rw [← hgl_] at hl hgl1 hgl2 hgb ⊢
            rw [← hW_] at hl hgl2 hb_ hbq hbz hzz hs hx d0 d1 hst hb ⊢
            clear hW_ hgl_
            go_wp2_with fail
            first | (refine hK _ _ ⟨hbz, ?_⟩; clear hK K) | refine ⟨hbz, ?_⟩
            refine norm_K fun K hK => ?_
            change wpList _ _ _ [_] _ _
            go_wp2_with fail
            first | (refine hK _ _ ⟨rfl, ?_⟩; clear hK K) | refine ⟨rfl, ?_⟩
            go_wp2_with fail
            go_meet
            case rel => exact ⟨gb, cb, gl, rfl, rfl, hb.more (by omega), hl, by omega, hgl1, hbq⟩
          · skip
            refine norm_K fun K hK => ?_
            change wpList _ _ _ [_] _ _
            go_wp2_with fail
            have hb_ : Below v3.heap.size v3 (v3.alloc (.cells #[] 24)) := (by repeat (first | exact .refl _ _ | apply bwD | apply bwA | (refine bwS ?_ (by first | omega | simp <;> omega) _) | refine bwC ?_ (by assumption)))
            have hl := (LsR.new (w := v3) (B := v3.heap.size) (Nat.le_refl _)).more (B' := w2.heap.size) hzz
            have hs := hs.below hb_; have hx := hx.below hb_; have d0 := kept hb_ d0; have d1 := kept hb_ d1; have hst := hst.below hb_; have hbq := hbq.trans (hb_.mono hbq.size); have hbz := hbz.trans (hb_.mono hbz.size); have hzz := Nat.le_trans hzz hb_.size
            have hgl2 : v3.heap.size < (v3.alloc (.cells #[] 24)).heap.size := by simp
            have hgl1 : w2.heap.size ≤ v3.heap.size := by omega
            obtain ⟨gl, hgl_⟩ : ∃ g_, g_ = v3.heap.size := ⟨_, rfl⟩
            obtain ⟨v6, hW_⟩ : ∃ x, x = (v3.alloc (.cells #[] 24)) := ⟨_, rfl⟩
            rw [← hgl_] at hl hgl1 hgl2 ⊢
            rw [← hW_] at hl hgl2 hb_ hbq hbz hzz hs hx d0 d1 hst ⊢
            clear hW_ hgl_
            go_wp2_with fail
            first | (refine hK _ _ ⟨hbz, ?_⟩; clear hK K) | refine ⟨hbz, ?_⟩
            refine norm_K fun K hK => ?_
            change wpList _ _ _ [_, _, _] _ _
            have hgp := hgl2
            go_wp2_with fail
            refine (sscale_c (p := p) (k := V) (by omega) (by omega) (by omega) (by omega) hst.sl (fun y hy => by have := hcl.2 y hy; omega) (by rw [hcl.1]; omega)).mono ?_; rintro e v7 ⟨v_, rfl, hb, hb_⟩
            have hs := hs.below hb_; have hx := hx.below hb_; have d0 := kept hb_ d0; have d1 := kept hb_ d1; have hst := hst.below hb_; have hl := hl.below hb_; have hbq := hbq.trans (hb_.mono hbq.size); have hbz := hbz.trans (hb_.mono hbz.size); have hzz := Nat.le_trans hzz hb_.size
            have hgl2 := Nat.lt_of_lt_of_le hgl2 hb_.size
            rw [HC.out] at hb
            obtain ⟨gb, cb, rfl, hbO⟩ := id hb
            have hbl := hbO.lt.2
            have hbl0 := hbO.lt.1
            have hgb : gl < gb := by omega
            go_wp2_with fail
            first | (refine hK _ _ ⟨rfl, ?_⟩; clear hK K) | refine ⟨rfl, ?_⟩
            go_wp2_with fail
            go_meet
            case rel => exact ⟨gb, cb, gl, rfl, rfl, hb.more (by omega), hl, by omega, hgl1, hbq⟩
        · skip
          refine norm_K fun K hK => ?_
          change wpList _ _ _ [_] _ _
          go_wp2_with fail
          have hb_ : Below v1.heap.size v1 (v1.alloc (.cells #[] 24)) := (by repeat (first | exact .refl _ _ | apply bwD | apply bwA | (refine bwS ?_ (by first | omega | simp <;> omega) _) | refine bwC ?_ (by assumption)))
          have hl := (LsR.new (w := v1) (B := v1.heap.size) (Nat.le_refl _)).more (B' := w2.heap.size) hzz
          have hs := hs.below hb_; have hx := hx.below hb_; have d0 := kept hb_ d0; have d1 := kept hb_ d1; have hbq := hbq.trans (hb_.mono hbq.size); have hbz := hbz.trans (hb_.mono hbz.size); have hzz := Nat.le_trans hzz hb_.size
          have hgl2 : v1.heap.size < (v1.alloc (.cells #[] 24)).heap.size := by simp
          have hgl1 : w2.heap.size ≤ v1.heap.size := by omega
          obtain ⟨gl, hgl_⟩ : ∃ g_, g_ = v1.heap.size := ⟨_, rfl⟩
          obtain ⟨v8, hW_⟩ : ∃ x, x = (v1.alloc (.cells #[] 24)) := ⟨_, rfl⟩
          rw [← hgl_] at hl hgl1 hgl2 ⊢
          rw [← hW_] at hl hgl2 hb_ hbq hbz hzz hs hx d0 d1 ⊢
          clear hW_ hgl_
          go_wp2_with fail
          first | (refine hK _ _ ⟨hbz, ?_⟩; clear hK K) | refine ⟨hbz, ?_⟩
          refine norm_K fun K hK => ?_
          change wpList _ _ _ [_] _ _
          go_wp2_with fail
          refine (sstar_c (by omega) (by omega) hx (by rw [HEV.out.1]; omega) HEV.out.2 (by rw [HEV.out.1]; omega)).mono ?_; rintro e v9 ⟨v_, rfl, hst, hb_⟩
          have hs := hs.below hb_; have hx := hx.below hb_; have d0 := kept hb_ d0; have d1 := kept hb_ d1; have hl := hl.below hb_; have hbq := hbq.trans (hb_.mono hbq.size); have hbz := hbz.trans (hb_.mono hbz.size); have hzz := Nat.le_trans hzz hb_.size
          have hgl2 := Nat.lt_of_lt_of_le hgl2 hb_.size
          obtain ⟨a4, c4, rfl, _⟩ := id hst.el.op
          go_wp2_with fail
          first | (refine hK _ _ ⟨hbz, ?_⟩; clear hK K) | refine ⟨hbz, ?_⟩
          refine norm_K fun K hK => ?_
          change wpList _ _ _ [_, _, _] _ _
          have hgp := hgl2
          go_wp2_with fail
          refine (sscale_c (p := p) (k := V) (by omega) (by omega) (by omega) (by omega) hst.sl (fun y hy => by have := hcl.2 y hy; omega) (by rw [hcl.1]; omega)).mono ?_; rintro e v10 ⟨v_, rfl, hb, hb_⟩
          have hs := hs.below hb_; have hx := hx.below hb_; have d0 := kept hb_ d0; have d1 := kept hb_ d1; have hl := hl.below hb_; have hst := hst.below hb_; have hbq := hbq.trans (hb_.mono hbq.size); have hbz := hbz.trans (hb_.mono hbz.size); have hzz := Nat.le_trans hzz hb_.size
          have hgl2 := Nat.lt_of_lt_of_le hgl2 hb_.size
          rw [HC.out] at hb
          obtain ⟨gb, cb, rfl, hbO⟩ := id hb
          have hbl := hbO.lt.2
          have hbl0 := hbO.lt.1
          have hgb : gl < gb := by omega
          go_wp2_with fail
          first | (refine hK _ _ ⟨rfl, ?_⟩; clear hK K) | refine ⟨rfl, ?_⟩
          go_wp2_with fail
          go_meet
          case rel => exact ⟨gb, cb, gl, rfl, rfl, hb.more (by omega), hl, by omega, hgl1, hbq⟩
      · skip
        refine norm_K fun K hK => ?_
        change wpList _ _ _ [_] _ _
        go_wp2_with fail
        have hb_ : Below v1.heap.size v1 (v1.alloc (.cells #[] 24)) := (by repeat (first | exact .refl _ _ | apply bwD | apply bwA | (refine bwS ?_ (by first | omega | simp <;> omega) _) | refine bwC ?_ (by assumption)))
        have hl := (LsR.new (w := v1) (B := v1.heap.size) (Nat.le_refl _)).more (B' := w2.heap.size) hzz
        have hs := hs.below hb_; have hx := hx.below hb_; have d0 := kept hb_ d0; have d1 := kept hb_ d1; have hbq := hbq.trans (hb_.mono hbq.size); have hbz := hbz.trans (hb_.mono hbz.size); have hzz := Nat.le_trans hzz hb_.size
        have hgl2 : v1.heap.size < (v1.alloc (.cells #[] 24)).heap.size := by simp
        have hgl1 : w2.heap.size ≤ v1.heap.size := by omega
        obtain ⟨gl, hgl_⟩ : ∃ g_, g_ = v1.heap.size := ⟨_, rfl⟩
        obtain ⟨v11, hW_⟩ : ∃ x, x = (v1.alloc (.cells #[] 24)) := ⟨_, rfl⟩
        rw [← hgl_] at hl hgl1 hgl2 ⊢
        rw [← hW_] at hl hgl2 hb_ hbq hbz hzz hs hx d0 d1 ⊢
        clear hW_ hgl_
        go_wp2_with fail
        first | (refine hK _ _ ⟨hbz, ?_⟩; clear hK K) | refine ⟨hbz, ?_⟩
        refine norm_K fun K hK => ?_
        change wpList _ _ _ [_] _ _
        go_wp2_with fail
        refine (hiv _).mono ?_; rintro e v12 ⟨rfl, rfl⟩
        go_wp2_with fail
        first | (refine hK _ _ ⟨hbz, ?_⟩; clear hK K) | refine ⟨hbz, ?_⟩
        refine norm_K fun K hK => ?_
        change wpList _ _ _ [_] _ _
        go_wp2_with fail
        refine (sstar_c (by omega) (by omega) hx (by rw [HEV.out.1]; omega) HEV.out.2 (by rw [HEV.out.1]; omega)).mono ?_; rintro e v13 ⟨v_, rfl, hst, hb_⟩
        have hs := hs.below hb_; have hx := hx.below hb_; have d0 := kept hb_ d0; have d1 := kept hb_ d1; have hl := hl.below hb_; have hbq := hbq.trans (hb_.mono hbq.size); have hbz := hbz.trans (hb_.mono hbz.size); have hzz := Nat.le_trans hzz hb_.size
        have hgl2 := Nat.lt_of_lt_of_le hgl2 hb_.size
        obtain ⟨a4, c4, rfl, _⟩ := id hst.el.op
        go_wp2_with fail
        first | (refine hK _ _ ⟨hbz, ?_⟩; clear hK K) | refine ⟨hbz, ?_⟩
        refine norm_K fun K hK => ?_
        change wpList _ _ _ [_, _, _] _ _
        have hgp := hgl2
        go_wp2_with fail
        refine (sscale_c (p := p) (k := V) (by omega) (by omega) (by omega) (by omega) hst.sl (fun y hy => by have := hcl.2 y hy; omega) (by rw [hcl.1]; omega)).mono ?_; rintro e v14 ⟨v_, rfl, hb, hb_⟩
        have hs := hs.below hb_; have hx := hx.below hb_; have d0 := kept hb_ d0; have d1 := kept hb_ d1; have hl := hl.below hb_; have hst := hst.below hb_; have hbq := hbq.trans (hb_.mono hbq.size); have hbz := hbz.trans (hb_.mono hbz.size); have hzz := Nat.le_trans hzz hb_.size
        have hgl2 := Nat.lt_of_lt_of_le hgl2 hb_.size
        rw [HC.out] at hb
        obtain ⟨gb, cb, rfl, hbO⟩ := id hb
        have hbl := hbO.lt.2
        have hbl0 := hbO.lt.1
        have hgb : gl < gb := by omega
        go_wp2_with fail
        first | (refine hK _ _ ⟨rfl, ?_⟩; clear hK K) | refine ⟨rfl, ?_⟩
        go_wp2_with fail
        go_meet
        case rel => exact ⟨gb, cb, gl, rfl, rfl, hb.more (by omega), hl, by omega, hgl1, hbq⟩
    · skip
      refine norm_K fun K hK => ?_
      change wpList _ _ _ [_] _ _
      go_wp2_with fail
      have hb_ : Below wq.heap.size wq (wq.alloc (.cells #[] 24)) := (by repeat (first | exact .refl _ _ | apply bwD | apply bwA | (refine bwS ?_ (by first | omega | simp <;> omega) _) | refine bwC ?_ (by assumption)))
      have hl := (LsR.new (w := wq) (B := wq.heap.size) (Nat.le_refl _)).more (B' := w2.heap.size) hzz
      have hs := hs.below hb_; have hx := hx.below hb_; have d0 := kept hb_ d0; have d1 := kept hb_ d1; have hbq := hbq.trans (hb_.mono hbq.size); have hbz := hbz.trans (hb_.mono hbz.size); have hzz := Nat.le_trans hzz hb_.size
      have hgl2 : wq.heap.size < (wq.alloc (.cells #[] 24)).heap.size := by simp
      have hgl1 : w2.heap.size ≤ wq.heap.size := by omega
      obtain ⟨gl, hgl_⟩ : ∃ g_, g_ = wq.heap.size := ⟨_, rfl⟩
      obtain ⟨v15, hW_⟩ : ∃ x, x = (wq.alloc (.cells #[] 24)) := ⟨_, rfl⟩
      rw [← hgl_] at hl hgl1 hgl2 ⊢
      rw [← hW_] at hl hgl2 hb_ hbq hbz hzz hs hx d0 d1 ⊢
      clear hW_ hgl_
      go_wp2_with fail
      first | (refine hK _ _ ⟨hbz, ?_⟩; clear hK K) | refine ⟨hbz, ?_⟩
      refine norm_K fun K hK => ?_
      change wpList _ _ _ [_] _ _
      go_wp2_with fail
      refine (hno _ hs hx).mono ?_; rintro e v16 ⟨rfl, hb_⟩
      have hs := hs.below hb_; have hx := hx.below hb_; have d0 := kept hb_ d0; have d1 := kept hb_ d1; have hl := hl.below hb_; have hbq := hbq.trans (hb_.mono hbq.size); have hbz := hbz.trans (hb_.mono hbz.size); have hzz := Nat.le_trans hzz hb_.size
      have hgl2 := Nat.lt_of_lt_of_le hgl2 hb_.size
      go_wp2_with fail
      first | (refine hK _ _ ⟨hbz, ?_⟩; clear hK K) | refine ⟨hbz, ?_⟩
      refine norm_K fun K hK => ?_
      change wpList _ _ _ [_] _ _
      go_wp2_with fail
      refine (hiv _).mono ?_; rintro e v17 ⟨rfl, rfl⟩
      go_wp2_with fail
      first | (refine hK _ _ ⟨hbz, ?_⟩; clear hK K) | refine ⟨hbz, ?_⟩
      refine norm_K fun K hK => ?_
      change wpList _ _ _ [_] _ _
      go_wp2_with fail
      refine (sstar_c (by omega) (by omega) hx (by rw [HEV.out.1]; omega) HEV.out.2 (by rw [HEV.out.1]; omega)).mono ?_; rintro e v18 ⟨v_, rfl, hst, hb_⟩
      have hs := hs.below hb_; have hx := hx.below hb_; have d0 := kept hb_ d0; have d1 := kept hb_ d1; have hl := hl.below hb_; have hbq := hbq.trans (hb_.mono hbq.size); have hbz := hbz.trans (hb_.mono hbz.size); have hzz := Nat.le_trans hzz hb_.size
      have hgl2 := Nat.lt_of_lt_of_le hgl2 hb_.size
      obtain ⟨a4, c4, rfl, _⟩ := id hst.el.op
      go_wp2_with fail
      first | (refine hK _ _ ⟨hbz, ?_⟩; clear hK K) | refine ⟨hbz, ?_⟩
      refine norm_K fun K hK => ?_
      change wpList _ _ _ [_, _, _] _ _
      have hgp := hgl2
      go_wp2_with fail
      refine (sscale_c (p := p) (k := V) (by omega) (by omega) (by omega) (by omega) hst.sl (fun y hy => by have := hcl.2 y hy; omega) (by rw [hcl.1]; omega)).mono ?_; rintro e v19 ⟨v_, rfl, hb, hb_⟩
      have hs := hs.below hb_; have hx := hx.below hb_; have d0 := kept hb_ d0; have d1 := kept hb_ d1; have hl := hl.below hb_; have hst := hst.below hb_; have hbq := hbq.trans (hb_.mono hbq.size); have hbz := hbz.trans (hb_.mono hbz.size); have hzz := Nat.le_trans hzz hb_.size
      have hgl2 := Nat.lt_of_lt_of_le hgl2 hb_.size
      rw [HC.out] at hb
      obtain ⟨gb, cb, rfl, hbO⟩ := id hb
      have hbl := hbO.lt.2
      have hbl0 := hbO.lt.1
      have hgb : gl < gb := by omega
      go_wp2_with fail
      first | (refine hK _ _ ⟨rfl, ?_⟩; clear hK K) | refine ⟨rfl, ?_⟩
      go_wp2_with fail
      go_meet
      case rel => exact ⟨gb, cb, gl, rfl, rfl, hb.more (by omega), hl, by omega, hgl1, hbq⟩
  case' rest => skip
  obtain ⟨gb, cb, gl, rfl, rfl, hb, hl, hgb, hgl, hbc⟩ := hcut
  have hbO : OwnI wc w2.heap.size gb Bv.length cb Bv := by obtain ⟨g, c, e, h⟩ := hb; cases e; exact h
  have hgbl := hbO.lt
  have hgll := (hl.own.lt gl rfl).2
  clear hb hno hiv hib hnb hnb0
  have hw3c := hbc.size
  have hszc := fun W => ssize_c (w := W) (p := p) (a := a0) (n := st.length) (c := c0) (by omega)
  have hMl : ((List.range (sz st.length)).map (cjF p st xs Bv)).length = sz st.length := by simp
  have htr := fun W m (h : Re W m ((List.range (sz st.length)).map (cjF p st xs Bv))) => scols_c (w := W) h (fun r hr => by rw [hMl]; obtain ⟨i, _, rfl⟩ := List.mem_map.1 hr; exact (mulL_ev (p := p) (by omega) (mulL_ev (by omega) HEV.out (Ev.one (by omega))) HEB.out).1) (by rw [hMl]; omega) (by rw [hMl]; omega)
  have hM0 : trL ((List.range (sz st.length)).map (cjF p st xs Bv)) ((List.range (sz st.length)).map (cjF p st xs Bv)).length = cjM p st xs := by rw [hMl, HBv.out]; rfl
  rw [hM0] at htr
  obtain ⟨M, hM⟩ : ∃ M, M = cjM p st xs := ⟨_, rfl⟩
  rw [← hM] at htr
  have HM := Lib.hid hM; clear hM hM0 hMl
  obtain ⟨n, hn⟩ : ∃ n, n = sz st.length := ⟨_, rfl⟩
  simp only [← hn] at hszc htr
  have hn1 : 1 ≤ n := by omega
  have hn8 : n ≤ 8 := by omega
  have HNn := Lib.hid hn; clear hn
  go_wp2_with fail
  go_loopw [8, 9] (fun o q wr => ∃ (k g2 cl : Nat) (us : List Value), k ≤ n ∧ q = .int .i64 k ∧ o = .slice (some ⟨g2, 0, none⟩) us.length cl ∧ (g2 = gl ∨ wc.heap.size ≤ g2) ∧ LsR wr w2.heap.size (.slice (some ⟨g2, 0, none⟩) us.length cl) us ((List.range k).map (cjF p st xs Bv)) ∧ Chg gl (gl + 1) wc wr) (fun _ q _ => n - (intOf q).toNat)
  case atStart => exact ⟨0, _, _, [], Nat.zero_le _, rfl, rfl, .inl rfl, hl, Chg.refl⟩
  case round =>
    clear hl
    obtain ⟨k, g2, cl, us, hk, rfl, rfl, hg2, hl, hch⟩ := hrel
    have HUL := Lib.hid (show us.length = k by have h := hl.len; simp at h; exact h)
    have hbr : Below w2.heap.size w2 wr := below_bchg (hb3.trans (hbc.mono hw23)) hch hgl (by omega)
    have hszr := hch.size
    have hs := hs2.below hbr; have hx := hx2.below hbr; have d0 := kept hbr d02; have d1 := kept hbr d12
    have hbv := (hbO.chg hch (by omega)).fr
    generalize wr = wo at *
    go_wp2_with fail
    refine (hszc _).mono ?_; rintro e w21 ⟨rfl, hb21⟩
    have hs := hs.below hb21; have hx := hx.below hb21; have d0 := kept hb21 d0; have d1 := kept hb21 d1; have hbv := hbv.below hb21; have hl := hl.below hb21
    have hch5 := hch.bl (hb21.mono hszr)
    have hbr5 : Below w2.heap.size w2 w21 := hbr.trans (hb21.mono hbr.size)
    have hsz5 := hch5.size
    clear hch hbr hszr
    by_cases hlt : k < n
    · have hlti : (k : Int) < n := by omega
      have hks : k < sz st.length := by rw [← HNn.out]; exact hlt
      go_wp2_with fail
      refine region_flow [(false, [(0, 0), (1, 1), (2, 1), (3, 0), (4, 1), (5, 0), (8, 0), (6, 5)]), (false, [(7, 5)]), (false, [(9, 4), (10, 4), (11, 4), (12, 0)])] (by kernel_rfl) ?_
      refine norm_K fun K hK => ?_
      change wpList _ _ _ [_, _, _, _, _, _, _, _] _ _
      have hb22 : Below w21.heap.size w21 w21.drew := (by repeat (first | exact .refl _ _ | apply bwD | apply bwA | (refine bwS ?_ (by first | omega | simp <;> omega) _) | refine bwC ?_ (by assumption)))
      have hs := hs.below hb22; have hx := hx.below hb22; have d0 := kept hb22 d0; have d1 := kept hb22 d1; have hbv := hbv.below hb22; have hl := hl.below hb22
      generalize w21.drew = wq at *
      have hbq : Below w21.heap.size w21 wq := by assumption
      go_wp2_with fail
      refine (sone_c hd hs hks).mono ?_; rintro e w23 ⟨vo, rfl, ho, hb23⟩
      have hs := hs.below hb23; have hx := hx.below hb23; have d0 := kept hb23 d0; have d1 := kept hb23 d1; have hbv := hbv.below hb23; have hl := hl.below hb23
      go_wp2_with fail
      have hz0 : Below wq.heap.size wq w23 := (by repeat (first | exact .refl _ _ | apply bwD | apply bwA | (refine bwS ?_ (by first | omega | simp <;> omega) _) | refine bwC ?_ (by assumption)))
      first | (refine hK _ _ ⟨hz0, ?_⟩; clear hK K) | refine ⟨hz0, ?_⟩
      clear hz0
      refine norm_K fun K hK => ?_
      change wpList _ _ _ [_] _ _
      obtain ⟨ao, co, rfl, _⟩ := id ho.el.op
      go_wp2_with fail
      refine (stimes_c hd hs hx ho.el HEV.out (Ev.one (by omega))).mono ?_; rintro e w24 ⟨vt, rfl, ht, hb24⟩
      have hs := hs.below hb24; have hx := hx.below hb24; have d0 := kept hb24 d0; have d1 := kept hb24 d1; have hbv := hbv.below hb24; have hl := hl.below hb24; have ho := ho.below hb24
      go_wp2_with fail
      have hz1 : Below wq.heap.size wq w24 := (by repeat (first | exact .refl _ _ | apply bwD | apply bwA | (refine bwS ?_ (by first | omega | simp <;> omega) _) | refine bwC ?_ (by assumption)))
      first | (refine hK _ _ ⟨hz1, ?_⟩; clear hK K) | refine ⟨hz1, ?_⟩
      clear hz1
      refine norm_K fun K hK => ?_
      change wpList _ _ _ [_, _, _, _] _ _
      obtain ⟨at_, ct, rfl, _⟩ := id ht.el.op
      have hbq4 : Below w21.heap.size w21 w24 := hbq.trans ((hb23.trans (hb24.mono hb23.size)).mono hbq.size)
      go_wp2_with fail
      refine (stimes_c hd hs ht.el hbv.el (mulL_ev (by omega) HEV.out (Ev.one (by omega))) HEB.out).mono ?_; rintro e w40 ⟨z, rfl, hz, hb40⟩
      have hzn := hl.fresh hz.elr
      have hl5 := hl.below hb40
      have hb4 := hbq4.trans (hb40.mono hbq4.size)
      have hch6 := hch5.bl (hb4.mono hsz5)
      have hs6 := hch6.size
      have hz5 := hz.elr.more (show w2.heap.size ≤ w24.heap.size by have := hbq4.size; have := hbr5.size; omega)
      obtain ⟨az, cz, rfl, _⟩ := id hz.el.op
      rw [show mulL p st (mulL p st xs (oneL (sz st.length) k)) Bv = cjF p st xs Bv k from rfl] at *
      clear hl hz hb40 ho ht
      go_wp2_with (at_builtin; refine appr_one rfl _ _ rfl w40 w2.heap.size _ rfl (.slice (some ⟨g2, 0, none⟩) us.length cl) us rfl (.slice az (cjF p st xs Bv k).length cz) 1 rfl rfl hl5.own (by omega) (by have := HUL.out; omega) ?_; intro g' cap' w8 hown' hgb' hg' hge)
      have hl8 := hl5.snoc hz5 hzn (nv := .slice (some ⟨g', 0, none⟩) (us.length + 1) cap') rfl hown' hgb' hg' hge
      have hch8 := grow_chg (g := g2) hch6 hg' (by rcases hg2 with h | h; exact .inl ⟨by omega, by omega⟩; exact .inr h)
      have hgl8 : g' = gl ∨ wc.heap.size ≤ g' := by
        rcases hge with h | h
        · cases h; exact hg2
        · right; omega
      first | (refine hK _ _ ⟨rfl, ?_⟩; clear hK K) | refine ⟨rfl, ?_⟩
      go_wp2_with fail
      go_roundw
      case rel => exact ⟨k + 1, g', cap', us ++ [.slice az (cjF p st xs Bv k).length cz], by omega, by go_num, by rw [List.length_append]; rfl, hgl8, by rw [List.range_succ, List.map_append, List.length_append]; exact hl8, hch8⟩
      case measure => simp [intOf]; omega
    · obtain rfl : k = n := by omega
      have hlf : ¬ (k : Int) < k := by omega
      have hl' : Re _ _ ((List.range k).map (cjF p st xs Bv)) := hl.rer.re
      go_wp2_with fail
      refine (htr _ _ hl').mono ?_; rintro e w6 ⟨v6, rfl, hv6, hb6⟩
      obtain ⟨a6, c6, rfl⟩ := hv6.shapeA
      have hbw : Below w.heap.size w w21 := hbx.trans (hbr5.mono hbx.size)
      have hv7 := hv6.more hbw.size
      rw [HM.out] at hv7 ⊢
      go_wp2_with fail
      go_ret2
      exact ⟨_, rfl, hv7, hbw.trans (hb6.mono hbw.size)⟩
end Go.Proofs.Ytgkceadllcjeoaa
