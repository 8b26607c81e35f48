/-
  The law FnAutomorphisms: its walk.
-/
import Derived.Test.YtgkceadllcjeoaaJan
import Derived.Test.YtgkceadllcjeoaaAuR
import Derived.Test.YtgkceadllcjeoaaJbr
import Derived.Test.YtgkceadllcjeoaaAfC
import Derived.Test.YtgkceadllcjeoaaCjB
import Derived.Test.YtgkceadllcjeoaaDpJ
import Derived.Test.YtgkceadllcjeoaaJbf
namespace Go.Proofs.Ytgkceadllcjeoaa
open Go.RowKit

theorem ReR.below {w w' : World} {B : Nat} {v : Value} {xss : List (List Int)} (h : ReR w B v xss) (hb : Below w.heap.size w w') : ReR w' B v xss := h.below_ hb
theorem mat_len {p : Int} {n : Nat} {M : List (List Int)} (h : matB p n M = true) (hn : n ≤ 1000) : M.length ≤ 1048576 ∧ ∀ r ∈ M, r.length ≤ 1048576 := by
  obtain ⟨h1, h2⟩ := matB_iff.1 h
  exact ⟨by omega, fun r hr => by have := (h2 r hr).1; omega⟩
theorem RAf0_len {p : Int} {st : List Int} {ims : List (List Int)} : (RAf0 p st ims).length ≤ 1048576 ∧ ∀ r ∈ RAf0 p st ims, r.length ≤ 1048576 := by
  unfold RAf0
  split
  · next h =>
    unfold RAf1 at h
    split at h
    · next h1 =>
      obtain ⟨hd, he⟩ := chk3_posA h1
      split at h
      · next h2 => exact mat_len (af_facts hd he h2).1 (by have := (sz_le hd).2; omega)
      · exact absurd h (by decide)
    · next h1 => exact absurd h h1
  · exact ⟨by simp, fun r h => by simp at h⟩
theorem RCj0_len {p : Int} {st a : List Int} : (RCj0 p st a).length ≤ 1048576 ∧ ∀ r ∈ RCj0 p st a, r.length ≤ 1048576 := by
  unfold RCj0
  split
  · next h =>
    unfold RCj1 at h
    split at h
    · next h1 =>
      obtain ⟨hd, he⟩ := chk3_posA h1
      have ha := he a (by simp)
      have h1 : 1 ≤ p := by have := hd.hp.lo; omega
      exact mat_len (two_sided hd ha (Ev.scale h1 (ha.conj h1))).1 (by have := (sz_le hd).2; omega)
    · next h1 => exact absurd h h1
  · exact ⟨by simp, fun r h => by simp at h⟩

set_option maxHeartbeats 32000000 in
set_option maxRecDepth 100000 in
theorem law_Automorphisms {a : Option Addr} {n c : Nat} {w : World} (hn : n ≤ 9223372036854775807) (hco : n ≤ 4096 → Co w w.heap.size (.slice a n c) n) :
    Calls Try.prog 3 #[.slice a n c] w fun e w' => e = .returned (.bool true) ∧ Below w.heap.size w w' := by
  by_cases hbig : 4096 < n
  · go_enter Try.func3, Try.ntmps3
    go_wp2_with fail
    refine (big_c hn).mono ?_; rintro e w1 ⟨rfl, rfl⟩
    rw [decide_eq_true hbig]
    go_wp2_with fail
    go_ret
    exact ⟨rfl, Below.refl _ _⟩
  have hc := hco (by omega)
  have hbf : decide (4096 < n) = false := decide_eq_false hbig
  have hcw := hc
  clear hco hbig
  go_enter Try.func3, Try.ntmps3
  go_wp2_with fail
  refine (big_c hn).mono ?_; rintro e w0 ⟨rfl, rfl⟩
  rw [hbf]
  go_wp2_with fail
  refine (sdrawaut_c hc).mono ?_; rintro e w1 ⟨p, v, l, st, xss, rfl, hp1, hp2, hl5, hE, hR, hX4, h16, hb1⟩
  obtain ⟨av, cv, rfl⟩ := hE.shape_
  obtain ⟨al, cl, rfl⟩ := hR.shape
  have hs := hE.1; have hr := hR.re
  clear hE hR
  have hl6 : st.length ≤ 1048576 := by omega
  have hiw : ∀ xs ∈ xss, xs.length ≤ 1048576 := fun xs h => by have := h16 xs h; omega
  have hI := fun W v0 v1 (h0 : El W v0 st) (h1 : Re W v1 xss) => iaf_c (w := W) (p := p) h0 hl6 h1 (by omega) hiw
  have hS := fun W v0 v1 (h0 : El W v0 st) (h1 : Re W v1 xss) => saf_c (w := W) (p := p) h0 hl6 h1 (by omega) hiw
  have hML := RAf0_len (p := p) (st := st) (ims := xss)
  have hno : RAf1 p st xss ≠ 0 → RAf0 p st xss = [] := fun h => if_neg h
  obtain ⟨k, hk⟩ : ∃ k, k = RAf1 p st xss := ⟨_, rfl⟩; obtain ⟨M, hM⟩ : ∃ M, M = RAf0 p st xss := ⟨_, rfl⟩
  simp only [← hk, ← hM] at hI hS hML hno
  have HK := Lib.hid (And.intro hk hM); clear hk hM; have HNO := Lib.hid hno; clear hno; have HML := Lib.hid hML; clear hML hiw
  have hb22 : Below w1.heap.size w1 (w1.alloc (.cells #[.int .i64 p, .slice av st.length cv] 26)) := (by repeat (first | exact .refl _ _ | apply bwD | apply bwA | (refine bwS ?_ (by first | omega | simp <;> omega) _) | refine bwC ?_ (by assumption)))
  have hs := hs.below hb22; have hr := hr.below hb22
  have d0 : (w1.alloc (.cells #[.int .i64 p, .slice av st.length cv] 26)).cell? ⟨w1.heap.size, 0, none⟩ = some (.int .i64 p) := by simp [go_sem]
  have d1 : (w1.alloc (.cells #[.int .i64 p, .slice av st.length cv] 26)).cell? ⟨w1.heap.size, 1, none⟩ = some (.slice av st.length cv) := by simp [go_sem]
  have hbd : Bd (w1.alloc (.cells #[.int .i64 p, .slice av st.length cv] 26)) w1.heap.size (.int .i64 p) (.slice av st.length cv) := heap_alloc_new _ _
  go_wp2_with fail
  refine (hI _ _ _ hs hr).mono ?_; rintro e w23 ⟨vm, rfl, hm, hb23⟩
  have hs := hs.below hb23; have hr := hr.below hb23; have d0 := kept hb23 d0; have d1 := kept hb23 d1; have hbd := hbd.below hb23
  obtain ⟨am, cm, rfl⟩ := hm.shape
  go_wp2_with fail
  refine (hS _ _ _ hs hr).mono ?_; rintro e w24 ⟨vn, rfl, hn_, hb24⟩
  have hs := hs.below hb24; have hr := hr.below hb24; have d0 := kept hb24 d0; have d1 := kept hb24 d1; have hbd := hbd.below hb24; have hm := hm.below hb24
  obtain ⟨an, cn, rfl⟩ := hn_.shape
  go_wp2_with fail
  refine (same9_c hm.re.rs hn_.re.rs HML.out.1 HML.out.2).mono ?_; rintro e w25 ⟨rfl, hb25⟩
  have hs := hs.below hb25; have hr := hr.below hb25; have d0 := kept hb25 d0; have d1 := kept hb25 d1; have hbd := hbd.below hb25; have hm := hm.below hb25; have hn_ := hn_.below hb25
  clear hI hS
  go_upto_if 67 with fail
  generalize hwE : w25 = wE at *
  clear hwE
  have hbE : Below w.heap.size w wE := (by repeat (first | exact .refl _ _ | apply bwD | apply bwA | (refine bwS ?_ (by first | omega | simp <;> omega) _) | refine bwC ?_ (by assumption)))
  go_cut [] (fun wx => Below w.heap.size w wx)
  case first =>
    by_cases hk0 : k = 0
    case neg =>
      have hkb : (k == 0) = false := by simpa using hk0
      obtain rfl := HNO.out hk0
      go_wp2_with fail
      go_meet
      case rel => exact hbE
    subst hk0
    have hk1 : chk3 p st xss = 0 ∧ xss.length = st.length ∧ autK p st (afM p st xss) = true := by
      have e := HK.out.1
      unfold RAf1 at e
      split at e
      · next h1 =>
        split at e
        · next h2 =>
          split at e
          · next h3 => exact ⟨h1, h2, h3⟩
          · exact absurd e (by decide)
        · exact absurd e (by decide)
      · next h1 => exact absurd e.symm h1
    obtain ⟨hk1, hlen, haut⟩ := hk1
    obtain ⟨hd, hev⟩ := chk3_posA hk1
    have hsz := sz_le hd
    have hp3 := hd.hp.lo; have hl3 := hd.hl
    have hMJ : M = afM p st xss := HK.out.2.trans (if_pos HK.out.1.symm)
    obtain ⟨hMb, _, hat⟩ := af_facts hd hev hlen
    obtain ⟨hiso, hlaw⟩ := af_law hd hev hlen haut
    rw [← hMJ] at hMb hat hiso hlaw haut
    have HMB := Lib.hid hMb; have HAT := Lib.hid hat; have HISO := Lib.hid hiso; have HLAW := Lib.hid hlaw; have HAUT := Lib.hid haut; have HLEN := Lib.hid hlen; have HEV := Lib.hid hev
    clear hMb hat hiso hlaw haut hlen hMJ hk1 hev HK HNO
    have hcE := (hcw.below hbE).wide (q' := wE.heap.size) (by have := hbE.size; omega)
    go_wp2_with fail
    refine (droll_c hcE).mono ?_; rintro e w40 ⟨rfl, hdc, hz40, hb40⟩
    obtain ⟨q, hq⟩ : ∃ q, q = wE.heap.size := ⟨_, rfl⟩
    rw [← hq] at hdc hz40 ⊢
    have hqz : q + 1 ≤ w40.heap.size := by omega
    have hsE := hs; have hrE := hr; have hmE := hm.re; have hbdE := hbd; have d0E := d0; have d1E := d1
    have hqE : wE.heap.size ≤ q := by omega
    have hbd := hbd.below hb40; have hs := hs.below hb40; have d0 := kept hb40 d0; have d1 := kept hb40 d1
    have HB40 := Lib.hid hb40
    clear hz40 hq hcE hb40
    have hMq : w1.heap.size < q := by have := hbdE.lt; omega
    go_upto_region 10 with fail
    refine @region_flowR ⟨q, q + 1⟩ _ [(false, [(0, 0), (1, 1), (3, 0), (4, 1), (2, 5)]), (false, [(5, 4), (6, 0), (7, 0)])] _ _ _ _ _ (by kernel_rfl) ?_
    refine norm_K fun K hK => ?_
    change wpList _ _ _ [_, _, _, _, _] _ _
    have hbz : Below w40.heap.size w40 w40.drew := (by repeat (first | exact .refl _ _ | apply bwD | apply bwA | (refine bwS ?_ (by first | omega | simp <;> omega) _) | refine bwC ?_ (by assumption)))
    have hdc := hdc.bl hbz (by omega); have hs := hs.below hbz; have d0 := kept hbz d0; have d1 := kept hbz d1; have hbd := hbd.below hbz
    have hqz : q + 1 ≤ w40.drew.heap.size := hqz
    generalize w40.drew = wq at *
    have hbQ : Below q w40 wq := hbz.mono (by omega)
    clear hbz
    have hld := hbd
    go_wp2_with fail
    refine (elem9_c hdc hd hs).mono ?_; rintro e w41 ⟨vx, X, rfl, ex, hx, hdc, hc41⟩
    have hx := hx.more (B' := q + 1) hqz
    obtain ⟨ax, cx, rfl⟩ := hx.shape_
    have hb41 : Below q w40 w41 := below_bchg hbQ hc41 (Nat.le_refl _) (by have := hbQ.size; omega)
    have hs := hsE.below (HB40.out.trans (hb41.mono hqE))
    go_wp2_with fail
    first | (refine hK _ _ ⟨hc41, ?_⟩; clear hK K) | refine ⟨hc41, ?_⟩
    refine norm_K fun K hK => ?_
    change wpList _ _ _ [_, _, _] _ _
    go_wp2_with fail
    refine (elem9_c hdc hd hs).mono ?_; rintro e w42 ⟨vy, Y, rfl, ey, hy, hdc, hc42⟩
    have hy := hy.more (B' := q + 1) (Nat.le_trans hqz hc41.size)
    have hx := hx.chg hc42 (by omega)
    obtain ⟨ay, cy, rfl⟩ := hy.shape_
    go_wp2_with fail
    first | (refine hK _ _ ⟨⟨rfl, ?_⟩, ?_⟩; clear hK K) | refine ⟨⟨rfl, ?_⟩, ?_⟩
    · repeat' (first | exact trivial | exact ⟨_, rfl, (show w1.heap.size < q ∨ q + 1 ≤ w1.heap.size by omega), _, _, _, hld⟩ | refine And.intro ?_ ?_)
    have hb42 : Below wE.heap.size wE w42 := below_bchg (below_bchg (HB40.out.trans (hbQ.mono (by omega))) hc41 hqE (by have := HB40.out.size; have := hbQ.size; omega)) hc42 hqE (by have := HB40.out.size; have := hbQ.size; have := hc41.size; omega)
    have hs := hsE.below hb42; have hr := hrE.below hb42; have hm := hmE.below hb42; have d0 := kept hb42 d0E; have d1 := kept hb42 d1E
    have hx := hx.1; have hy := hy.1
    have hbX : Below w.heap.size w w42 := hbE.trans (hb42.mono hbE.size)
    clear hsE hrE hmE hbdE d0E d1E hc41 hc42 hdc hbQ hld hbd hqz
    obtain ⟨ka, kn, kc⟩ := HLAW.out X ex
    have kc := kc Y ey
    obtain ⟨la, ln, _⟩ := HLAW.out Y ey
    have eU := applyL_ev (p := p) (show 1 ≤ p by omega) HMB.out X; have eV := applyL_ev (p := p) (show 1 ≤ p by omega) HMB.out Y
    have eXY := mulL_ev (p := p) (st := st) (by omega) ex ey
    have eUV := mulL_ev (p := p) (st := st) (by omega) eU eV
    obtain ⟨U, hU⟩ : ∃ U, U = applyL p M X := ⟨_, rfl⟩; obtain ⟨V, hV⟩ : ∃ V, V = applyL p M Y := ⟨_, rfl⟩
    rw [← hU] at ka kn kc eU eUV; rw [← hV] at kc eV eUV
    have HU := Lib.hid hU; have HV := Lib.hid hV; have KC := Lib.hid kc; have KN := Lib.hid kn; have KA := Lib.hid ka
    have EX := Lib.hid ex; have EY := Lib.hid ey; have EU := Lib.hid eU; have EV := Lib.hid eV; have EXY := Lib.hid eXY; have EUV := Lib.hid eUV
    clear hU hV ka kn kc la ln ex ey eU eV eXY eUV
    obtain ⟨N, hN⟩ : ∃ N, N = normL p st X := ⟨_, rfl⟩; have HN := Lib.hid hN; clear hN
    go_wp2_with fail
    refine (mimg_c hd hs hm HMB.out hx EX.out).mono ?_; rintro e w63 ⟨vu, rfl, hu, hb63⟩
    have hs := hs.below hb63; have hr := hr.below hb63; have hm := hm.below hb63; have d0 := kept hb63 d0; have d1 := kept hb63 d1; have hx := hx.below hb63; have hy := hy.below hb63
    rw [← HU.out] at hu
    obtain ⟨gu, cu, rfl, hu0⟩ := id hu
    go_wp2_with fail
    refine (mimg_c hd hs hm HMB.out hy EY.out).mono ?_; rintro e w64 ⟨vv, rfl, hv, hb64⟩
    have hs := hs.below hb64; have hr := hr.below hb64; have hm := hm.below hb64; have d0 := kept hb64 d0; have d1 := kept hb64 d1; have hx := hx.below hb64; have hy := hy.below hb64; have hu := hu.below hb64
    rw [← HV.out] at hv
    obtain ⟨gv, cvv, rfl, _⟩ := id hv
    go_upto_region 13 with fail
    go_wp2_with fail
    refine region_flow [(false, [(0, 1), (1, 0), (2, 1), (3, 0), (4, 0), (5, 5)]), (false, [(6, 4), (7, 0), (8, 0), (9, 0), (10, 0), (11, 0)])] (by kernel_rfl) ?_
    refine norm_K fun K hK => ?_
    change wpList _ _ _ [_, _, _, _, _, _] _ _
    have hb65 : Below w64.heap.size w64 w64.drew := (by repeat (first | exact .refl _ _ | apply bwD | apply bwA | (refine bwS ?_ (by first | omega | simp <;> omega) _) | refine bwC ?_ (by assumption)))
    have hs := hs.below hb65; have hr := hr.below hb65; have hm := hm.below hb65; have d0 := kept hb65 d0; have d1 := kept hb65 d1; have hx := hx.below hb65; have hy := hy.below hb65; have hu := hu.below hb65; have hv := hv.below hb65
    generalize w64.drew = wt at *
    go_wp2_with fail
    refine (ltimes9_c hd hs hx EX.out hy EY.out).mono ?_; rintro e w66 ⟨vt, rfl, ht, hb66⟩
    have hs := hs.below hb66; have hr := hr.below hb66; have hm := hm.below hb66; have d0 := kept hb66 d0; have d1 := kept hb66 d1; have hx := hx.below hb66; have hy := hy.below hb66; have hu := hu.below hb66; have hv := hv.below hb66
    go_wp2_with fail
    have hz0 : Below wt.heap.size wt w66 := (by repeat (first | exact .refl _ _ | apply bwD | apply bwA | (refine bwS ?_ (by first | omega | simp <;> omega) _) | refine bwC ?_ (by assumption)))
    first | (refine hK _ _ ⟨hz0, ?_⟩; clear hK K) | refine ⟨hz0, ?_⟩
    clear hz0
    refine norm_K fun K hK => ?_
    change wpList _ _ _ [_, _, _, _, _, _] _ _
    obtain ⟨gt, ct, rfl, _⟩ := id ht
    go_wp2_with fail
    refine (mimg_c hd hs hm HMB.out ht.el EXY.out).mono ?_; rintro e w60 ⟨vw, rfl, hw_, hb60⟩
    have hs := hs.below hb60; have hr := hr.below hb60; have hm := hm.below hb60; have d0 := kept hb60 d0; have d1 := kept hb60 d1; have hx := hx.below hb60; have hy := hy.below hb60; have hu := hu.below hb60; have hv := hv.below hb60; have ht := ht.below hb60
    rw [KC.out] at hw_
    obtain ⟨gw, cw, rfl, _⟩ := id hw_
    go_wp2_with fail
    first | (refine hK _ _ ⟨rfl, ?_⟩; clear hK K) | refine ⟨rfl, ?_⟩
    have hb61 : Below w42.heap.size w42 w60 := (by repeat (first | exact .refl _ _ | apply bwD | apply bwA | (refine bwS ?_ (by first | omega | simp <;> omega) _) | refine bwC ?_ (by assumption)))
    have hbY := hbX.trans (hb61.mono hbX.size)
    clear hb61
    go_wp2_with fail
    refine (dnorm_c hd hs hx EX.out).mono ?_; rintro e w81 ⟨rfl, hb81⟩
    have hs := hs.below hb81; have hr := hr.below hb81; have hm := hm.below hb81; have d0 := kept hb81 d0; have d1 := kept hb81 d1; have hx := hx.below hb81; have hy := hy.below hb81; have hu := hu.below hb81; have hv := hv.below hb81; have hw_ := hw_.below hb81
    rw [← HN.out]
    go_wp2_with fail
    refine (dnorm_c hd hs hu.el EU.out).mono ?_; rintro e w82 ⟨rfl, hb82⟩
    have hs := hs.below hb82; have hr := hr.below hb82; have hm := hm.below hb82; have d0 := kept hb82 d0; have d1 := kept hb82 d1; have hx := hx.below hb82; have hy := hy.below hb82; have hu := hu.below hb82; have hv := hv.below hb82; have hw_ := hw_.below hb82
    rw [KN.out, ← HN.out]
    go_wp2_with fail
    refine (iaut1_c hd hs hm HMB.out).mono ?_; rintro e w83 ⟨rfl, hb83⟩
    have hs := hs.below hb83; have hr := hr.below hb83; have hm := hm.below hb83; have d0 := kept hb83 d0; have d1 := kept hb83 d1; have hx := hx.below hb83; have hy := hy.below hb83; have hu := hu.below hb83; have hv := hv.below hb83; have hw_ := hw_.below hb83
    rw [HAUT.out]
    go_wp2_with fail
    refine (keep1_c hd hs hm HMB.out).mono ?_; rintro e w84 ⟨rfl, hb84⟩
    have hs := hs.below hb84; have hr := hr.below hb84; have hm := hm.below hb84; have d0 := kept hb84 d0; have d1 := kept hb84 d1; have hx := hx.below hb84; have hy := hy.below hb84; have hu := hu.below hb84; have hv := hv.below hb84; have hw_ := hw_.below hb84
    rw [HISO.out]
    have hb84 : Below w60.heap.size w60 w84 := (by repeat (first | exact .refl _ _ | apply bwD | apply bwA | (refine bwS ?_ (by first | omega | simp <;> omega) _) | refine bwC ?_ (by assumption)))
    have hbZ := hbY.trans (hb84.mono hbY.size)
    clear hb84
    obtain ⟨bx, ox, rfl, hx0⟩ : ∃ b off, ax = some ⟨b, off, none⟩ ∧ w84.cell? ⟨b, off, none⟩ = some (.int .i64 (X.getD 0 0)) := by
      obtain ⟨b, off, e, h⟩ := Sl.cellat hx.sl (i := 0) (by rw [EX.out.1]; omega)
      exact ⟨b, off, e, by simpa using h⟩
    have hu1 : w84.cell? ⟨gu, 0, none⟩ = some (.int .i64 (X.getD 0 0)) := by
      obtain ⟨_, _, e, h⟩ := hu
      cases e
      rw [← KA.out]
      exact h.hold (by rw [EU.out.1]; omega)
    have hul : ((U.length : Int) == 0) = false := by rw [EU.out.1]; simp; omega
    have hul2 : (0 : Int) < U.length := by rw [EU.out.1]; omega
    have hxl2 : (0 : Int) < X.length := by rw [EX.out.1]; omega
    obtain ⟨X0, hX0⟩ : ∃ z, z = X.getD 0 0 := ⟨_, rfl⟩
    rw [← hX0] at hu1 hx0; clear hX0
    go_upto_region 18 with fail
    go_wp2_with fail
    refine region_flowP [(31, 28, []), (32, 28, [31])] [(false, [(0, 0), (1, 0), (2, 0), (3, 0), (4, 0), (5, 0), (6, 0), (7, 0), (8, 0), (9, 0), (10, 0), (11, 0), (12, 0), (13, 0), (14, 0), (15, 0), (16, 0), (17, 0), (18, 0), (19, 0), (20, 0), (21, 0), (22, 0), (23, 0), (24, 0), (25, 0), (26, 0), (27, 0), (28, 1), (29, 0), (30, 0), (31, 4), (32, 4), (33, 0), (34, 0), (35, 0), (36, 0), (37, 0), (38, 0), (39, 0), (40, 0), (41, 0), (42, 0), (43, 0), (44, 0), (45, 0), (46, 0), (47, 0), (48, 0), (49, 0), (50, 0), (51, 0), (52, 0), (53, 0), (54, 0), (55, 0), (56, 1), (57, 0), (58, 0), (59, 1), (60, 0), (61, 0)])] (by kernel_rfl) ?_
    refine norm_K fun K hK => ?_
    change wpList _ _ _ [_, _, _, _, _, _, _, _, _, _, _, _, _, _, _, _, _, _, _, _, _, _, _, _, _, _, _, _, _, _, _, _, _, _, _, _, _, _, _, _, _, _, _, _, _, _, _, _, _, _, _, _, _, _, _, _, _, _, _, _, _, _] _ _
    have hb105 : Below w84.heap.size w84 w84.drew := (by repeat (first | exact .refl _ _ | apply bwD | apply bwA | (refine bwS ?_ (by first | omega | simp <;> omega) _) | refine bwC ?_ (by assumption)))
    have hs := hs.below hb105; have hr := hr.below hb105; have hm := hm.below hb105; have d0 := kept hb105 d0; have d1 := kept hb105 d1; have hx := hx.below hb105; have hy := hy.below hb105; have hu := hu.below hb105; have hv := hv.below hb105; have hw_ := hw_.below hb105; have hx0 := kept hb105 hx0; have hu1 := kept hb105 hu1
    generalize w84.drew = wt2 at *
    go_wp2_with fail
    refine (ltimes9_c hd hs hu.el EU.out hv.el EV.out).mono ?_; rintro e w90 ⟨v9, rfl, h9, hb90⟩
    have hs := hs.below hb90; have hr := hr.below hb90; have hm := hm.below hb90; have d0 := kept hb90 d0; have d1 := kept hb90 d1; have hx := hx.below hb90; have hy := hy.below hb90; have hu := hu.below hb90; have hv := hv.below hb90; have hw_ := hw_.below hb90; have hx0 := kept hb90 hx0; have hu1 := kept hb90 hu1
    obtain ⟨g9, c9, rfl, _⟩ := id h9
    go_wp2_with fail
    refine (like_c hw_.sl h9.sl (by rw [EUV.out.1]; omega)).mono ?_; rintro e w91 ⟨rfl, hb91⟩
    have hs := hs.below hb91; have hr := hr.below hb91; have hm := hm.below hb91; have d0 := kept hb91 d0; have d1 := kept hb91 d1; have hx := hx.below hb91; have hy := hy.below hb91; have hu := hu.below hb91; have hv := hv.below hb91; have hw_ := hw_.below hb91; have hx0 := kept hb91 hx0; have hu1 := kept hb91 hu1
    go_wp2_with fail
    first | (refine hK _ _ ⟨rfl, ?_⟩; clear hK K) | refine ⟨rfl, ?_⟩
    go_wp2_with fail
    have hb92 : Below w84.heap.size w84 w91 := (by repeat (first | exact .refl _ _ | apply bwD | apply bwA | (refine bwS ?_ (by first | omega | simp <;> omega) _) | refine bwC ?_ (by assumption)))
    have hbW := hbZ.trans (hb92.mono hbZ.size)
    clear hb92
    have HSX := Lib.hid (show X.length = sz st.length from EX.out.1)
    go_loopw [26] (fun i wr => ∃ j : Nat, j ≤ xss.length ∧ i = .int .i64 j ∧ Below w91.heap.size w91 wr) (fun i _ => xss.length - (intOf i).toNat)
    case atStart => exact ⟨0, Nat.zero_le _, rfl, Below.refl _ _⟩
    case round =>
      obtain ⟨j, hj, rfl, hbr⟩ := hrel
      by_cases hlt : j < xss.length
      · have hlti : (j : Int) < xss.length := by omega
        have hj3 : j < 3 := by have := HLEN.out; omega
        have hs := hs.below hbr; have hm := hm.below hbr; have hr := hr.below hbr; have d0 := kept hbr d0; have d1 := kept hbr d1
        obtain ⟨_, _, e_, _, _, hR⟩ := id hr
        cases e_
        obtain ⟨b1, o1, rfl, hcell⟩ := hR.resolve_left (fun e => by rw [e] at hlt; simp at hlt)
        clear hR
        obtain ⟨u_, hcu, huE⟩ := hcell j hlt
        obtain ⟨au_, cu_, rfl, _⟩ := id huE.op
        clear hcell
        have hij : 2 ^ j < sz st.length := show 2 ^ j < 2 ^ st.length from Nat.pow_lt_pow_right (by decide) (by have := HLEN.out; omega)
        have hatj := HAT.out j hlt
        have eJ := HEV.out xss[j] (List.getElem_mem hlt)
        obtain ⟨J, hJ⟩ : ∃ J, J = xss[j] := ⟨_, rfl⟩
        rw [← hJ] at hatj hcu huE eJ; clear hJ
        have HATJ := Lib.hid hatj; have EJ := Lib.hid eJ; clear hatj eJ
        have hX8 : X.length ≤ 8 := by rw [HSX.out]; omega
        have hmk := fun W => run_make_row' (P := Try.prog) 24 2 (.int .i64 0) 8 Try.underlying24 infoI rfl .i64 .i64 X.length (by omega) (by omega) W
        have hnew := made_own (W := wr) (n := X.length) (by omega)
        have hbm : Below wr.heap.size wr (wr.alloc (.cells (madeCells #[Value.int .i64 0] X.length) 2)) := (Below.refl _ _).alloc (Nat.le_refl _) _
        generalize wr = wo at *
        have hcu1 := kept hbm hcu; have d01 := kept hbm d0; have d11 := kept hbm d1
        have hzz : wo.heap.size < (wo.alloc (.cells (madeCells #[Value.int .i64 0] X.length) 2)).heap.size := by simp
        rcases (show j = 0 ∨ j = 1 ∨ j = 2 by omega) with rfl | rfl | rfl
        · have hjX : 1 < X.length := by rw [HSX.out]; exact hij
          have hjXi : (1 : Int) < X.length := by omega
          have hh := hnew.hold (i := 1) hjX; have hf := hnew.free 1
          have hst := made_set (W := wo) (n := X.length) (k := 1) 1 (by omega)
          rw [Nat.add_zero] at hcu hcu1
          have hbt : Below wo.heap.size wo (wo.alloc (.cells ((madeCells #[Value.int .i64 0] X.length).setIfInBounds 1 (.int .i64 1)) 2)) := (Below.refl _ _).alloc (Nat.le_refl _) _
          have eO : (List.replicate X.length (0 : Int)).set 1 1 = oneL (sz st.length) (2 ^ 0) := by rw [HSX.out]; rfl
          rw [eO] at hst; have EO := Lib.hid (show Ev p (sz st.length) (oneL (sz st.length) (2 ^ 0)) from Ev.unit1 (by omega))
          clear eO
          have hs := hs.below hbt; have hm := hm.below hbt; have huE := huE.below hbt; have d0 := kept hbt d0; have d1 := kept hbt d1; have hcu := kept hbt hcu; have hsl := hst.el
          have hwr := hbr.trans (hbt.mono hbr.size)
          clear hbm hbt
          go_wp2_with fail
          clear hmk hh hf hcu1 d01 d11 hnew hzz
          generalize World.alloc wo _ = wd at *
          refine (mimg_c hd hs hm HMB.out hsl EO.out).mono ?_; rintro e we ⟨vi, rfl, hi_, hbe⟩
          rw [HATJ.out] at hi_
          have huE := huE.below hbe; have hcu := kept hbe hcu
          obtain ⟨gi, ci, rfl, _⟩ := id hi_
          go_wp2_with fail
          refine (like_c hi_.sl huE.sl (by rw [EJ.out.1]; omega)).mono ?_; rintro e wf ⟨rfl, hbf⟩
          go_wp2_with fail
          go_roundw
          case rel => exact ⟨1, by omega, by go_num, (hwr.trans (hbe.mono hwr.size)).trans (hbf.mono (hwr.trans (hbe.mono hwr.size)).size)⟩
          case measure => simp [intOf]; omega
        · have hjX : 2 < X.length := by rw [HSX.out]; exact hij
          have hjXi : (2 : Int) < X.length := by omega
          have hh := hnew.hold (i := 2) hjX; have hf := hnew.free 2
          have hst := made_set (W := wo) (n := X.length) (k := 2) 1 (by omega)
          have hbt : Below wo.heap.size wo (wo.alloc (.cells ((madeCells #[Value.int .i64 0] X.length).setIfInBounds 2 (.int .i64 1)) 2)) := (Below.refl _ _).alloc (Nat.le_refl _) _
          have eO : (List.replicate X.length (0 : Int)).set 2 1 = oneL (sz st.length) (2 ^ 1) := by rw [HSX.out]; rfl
          rw [eO] at hst; have EO := Lib.hid (show Ev p (sz st.length) (oneL (sz st.length) (2 ^ 1)) from Ev.unit1 (by omega))
          clear eO
          have hs := hs.below hbt; have hm := hm.below hbt; have huE := huE.below hbt; have d0 := kept hbt d0; have d1 := kept hbt d1; have hcu := kept hbt hcu; have hsl := hst.el
          have hwr := hbr.trans (hbt.mono hbr.size)
          clear hbm hbt
          go_wp2_with fail
          clear hmk hh hf hcu1 d01 d11 hnew hzz
          generalize World.alloc wo _ = wd at *
          refine (mimg_c hd hs hm HMB.out hsl EO.out).mono ?_; rintro e we ⟨vi, rfl, hi_, hbe⟩
          rw [HATJ.out] at hi_
          have huE := huE.below hbe; have hcu := kept hbe hcu
          obtain ⟨gi, ci, rfl, _⟩ := id hi_
          go_wp2_with fail
          refine (like_c hi_.sl huE.sl (by rw [EJ.out.1]; omega)).mono ?_; rintro e wf ⟨rfl, hbf⟩
          go_wp2_with fail
          go_roundw
          case rel => exact ⟨2, by omega, by go_num, (hwr.trans (hbe.mono hwr.size)).trans (hbf.mono (hwr.trans (hbe.mono hwr.size)).size)⟩
          case measure => simp [intOf]; omega
        · have hjX : 4 < X.length := by rw [HSX.out]; exact hij
          have hjXi : (4 : Int) < X.length := by omega
          have hh := hnew.hold (i := 4) hjX; have hf := hnew.free 4
          have hst := made_set (W := wo) (n := X.length) (k := 4) 1 (by omega)
          have hbt : Below wo.heap.size wo (wo.alloc (.cells ((madeCells #[Value.int .i64 0] X.length).setIfInBounds 4 (.int .i64 1)) 2)) := (Below.refl _ _).alloc (Nat.le_refl _) _
          have eO : (List.replicate X.length (0 : Int)).set 4 1 = oneL (sz st.length) (2 ^ 2) := by rw [HSX.out]; rfl
          rw [eO] at hst; have EO := Lib.hid (show Ev p (sz st.length) (oneL (sz st.length) (2 ^ 2)) from Ev.unit1 (by omega))
          clear eO
          have hs := hs.below hbt; have hm := hm.below hbt; have huE := huE.below hbt; have d0 := kept hbt d0; have d1 := kept hbt d1; have hcu := kept hbt hcu; have hsl := hst.el
          have hwr := hbr.trans (hbt.mono hbr.size)
          clear hbm hbt
          go_wp2_with fail
          clear hmk hh hf hcu1 d01 d11 hnew hzz
          generalize World.alloc wo _ = wd at *
          refine (mimg_c hd hs hm HMB.out hsl EO.out).mono ?_; rintro e we ⟨vi, rfl, hi_, hbe⟩
          rw [HATJ.out] at hi_
          have huE := huE.below hbe; have hcu := kept hbe hcu
          obtain ⟨gi, ci, rfl, _⟩ := id hi_
          go_wp2_with fail
          refine (like_c hi_.sl huE.sl (by rw [EJ.out.1]; omega)).mono ?_; rintro e wf ⟨rfl, hbf⟩
          go_wp2_with fail
          go_roundw
          case rel => exact ⟨3, by omega, by go_num, (hwr.trans (hbe.mono hwr.size)).trans (hbf.mono (hwr.trans (hbe.mono hwr.size)).size)⟩
          case measure => simp [intOf]; omega
      · obtain rfl : j = xss.length := by omega
        have hlf : ¬ (xss.length : Int) < xss.length := by omega
        go_wp2_with fail
        go_meet
        case rel => exact hbW.trans (hbr.mono hbW.size)
  case' rest => skip
  clear hs hr d0 d1 hbd hm hn_ HK HNO HML hl6 hX4 h16 hp1 hp2 hl5 hbE
  have hcJ := (hcw.below hcut).wide (q' := wc.heap.size) (by have := hcut.size; omega)
  go_wp2_with fail
  refine (sdrawconj_c hcJ).mono ?_; rintro e w121 ⟨p, v, x, st, xs, rfl, hp1, hp2, hl5, hE, hV0, h16, hb121⟩
  have hbK : Below w.heap.size w w121 := bwC hcut hb121
  clear hcJ hcut hb121
  obtain ⟨av, cv, rfl⟩ := hE.shape_
  obtain ⟨ax, cx, rfl⟩ := hV0.shape_
  have hs := hE.1; have hx := hV0.1
  clear hE hV0
  have hl6 : st.length ≤ 1048576 := by omega
  have hx6 : xs.length ≤ 1048576 := by omega
  have hI := fun W v0 v1 (h0 : El W v0 st) (h1 : El W v1 xs) => icj_c (w := W) (p := p) h0 hl6 h1 hx6
  have hS := fun W v0 v1 (h0 : El W v0 st) (h1 : El W v1 xs) => scj_c (w := W) (p := p) h0 hl6 h1 hx6
  have hML := RCj0_len (p := p) (st := st) (a := xs)
  have hno : RCj1 p st xs ≠ 0 → RCj0 p st xs = [] := fun h => if_neg h
  obtain ⟨k, hk⟩ : ∃ k, k = RCj1 p st xs := ⟨_, rfl⟩; obtain ⟨M, hM⟩ : ∃ M, M = RCj0 p st xs := ⟨_, rfl⟩
  simp only [← hk, ← hM] at hI hS hML hno
  have HK := Lib.hid (And.intro hk hM); clear hk hM; have HNO := Lib.hid hno; clear hno; have HML := Lib.hid hML; clear hML
  have hb142 : Below w121.heap.size w121 (w121.alloc (.cells #[.int .i64 p, .slice av st.length cv] 26)) := (by repeat (first | exact .refl _ _ | apply bwD | apply bwA | (refine bwS ?_ (by first | omega | simp <;> omega) _) | refine bwC ?_ (by assumption)))
  have hs := hs.below hb142; have hx := hx.below hb142
  have d0 : (w121.alloc (.cells #[.int .i64 p, .slice av st.length cv] 26)).cell? ⟨w121.heap.size, 0, none⟩ = some (.int .i64 p) := by simp [go_sem]
  have d1 : (w121.alloc (.cells #[.int .i64 p, .slice av st.length cv] 26)).cell? ⟨w121.heap.size, 1, none⟩ = some (.slice av st.length cv) := by simp [go_sem]
  go_wp2_with fail
  refine (hI _ _ _ hs hx).mono ?_; rintro e w143 ⟨vm, rfl, hm, hb143⟩
  have hs := hs.below hb143; have hx := hx.below hb143; have d0 := kept hb143 d0; have d1 := kept hb143 d1
  obtain ⟨am, cm, rfl⟩ := hm.shape
  go_wp2_with fail
  refine (hS _ _ _ hs hx).mono ?_; rintro e w144 ⟨vn, rfl, hn_, hb144⟩
  have hs := hs.below hb144; have hx := hx.below hb144; have d0 := kept hb144 d0; have d1 := kept hb144 d1; have hm := hm.below hb144
  obtain ⟨an, cn, rfl⟩ := hn_.shape
  go_wp2_with fail
  refine (same9_c hm.re.rs hn_.re.rs HML.out.1 HML.out.2).mono ?_; rintro e w145 ⟨rfl, hb145⟩
  have hs := hs.below hb145; have hx := hx.below hb145; have d0 := kept hb145 d0; have d1 := kept hb145 d1; have hm := hm.below hb145; have hn_ := hn_.below hb145
  clear hI hS
  by_cases hk0 : k = 0
  case neg =>
    have hkb : (k == 0) = false := by simpa using hk0
    obtain rfl := HNO.out hk0
    go_wp2_with fail
    go_ret
    exact ⟨rfl, (by repeat (first | exact .refl _ _ | apply bwD | apply bwA | (refine bwS ?_ (by first | omega | simp <;> omega) _) | refine bwC ?_ (by assumption)))⟩
  subst hk0
  have hk1 : chk3 p st [xs] = 0 ∧ ¬ (normL p st xs = 0 ∨ st.length = 3) := by
    have e := HK.out.1
    unfold RCj1 at e
    split at e
    · next h1 =>
      split at e
      · exact absurd e (by decide)
      · next h2 => exact ⟨h1, h2⟩
    · next h1 => exact absurd e.symm h1
  obtain ⟨hk1, hk2⟩ := hk1
  obtain ⟨hd, hev⟩ := chk3_posA hk1
  have hev := hev xs (by simp)
  have hMJ : M = cjM p st xs := HK.out.2.trans (if_pos HK.out.1.symm)
  obtain ⟨hMb, haut⟩ := cj_aut hd (by have := hd.hl; have : st.length ≠ 3 := fun e => hk2 (.inr e); omega) hev (fun e => hk2 (.inl e))
  rw [← hMJ] at hMb haut
  have HMB := Lib.hid hMb; have HAUT := Lib.hid haut
  clear hMb haut hMJ hk1 hk2 hev HK HNO
  go_wp2_with fail
  refine (iaut1_c hd hs hm.re HMB.out).mono ?_; rintro e w146 ⟨rfl, hb146⟩
  have hs := hs.below hb146; have hx := hx.below hb146; have d0 := kept hb146 d0; have d1 := kept hb146 d1; have hm := hm.below hb146; have hn_ := hn_.below hb146
  rw [HAUT.out]
  go_wp2_with fail
  go_ret
  exact ⟨rfl, (by repeat (first | exact .refl _ _ | apply bwD | apply bwA | (refine bwS ?_ (by first | omega | simp <;> omega) _) | refine bwC ?_ (by assumption)))⟩
end Go.Proofs.Ytgkceadllcjeoaa
