/-
  The law FnPointCounts: its walk.
-/
import Derived.Test.YtapklfdojbicpaaHeX
namespace Go.Proofs.Ytapklfdojbicpaa
open Go.RowKit

set_option maxHeartbeats 16000000 in
set_option maxRecDepth 100000 in
theorem law_PointCounts {a : Option Addr} {n c : Nat} {w : World} (hn : n ≤ 9223372036854775807) (hco : n ≤ 4096 → Co w w.heap.size (.slice a n c) n) :
    Calls Try.prog 3 #[.slice a n c] w fun e w' => e = .returned (.bool true) ∧ Below w.heap.size w w' := by
  by_cases hbig : 4096 < n
  · go_enter Try.func3, Try.ntmps3
    go_wp2_with fail
    refine (big_c hn).mono ?_; rintro e w1 ⟨rfl, rfl⟩
    rw [decide_eq_true hbig]
    go_wp2_with fail
    go_ret
    exact ⟨rfl, Below.refl _ _⟩
  have hc := hco (by omega)
  have hbf : decide (4096 < n) = false := decide_eq_false hbig
  clear hco hbig
  go_enter Try.func3, Try.ntmps3
  go_wp2_with fail
  refine (big_c hn).mono ?_; rintro e w1 ⟨rfl, rfl⟩
  rw [hbf]
  go_wp2_with fail
  refine (sdrawcp_c hc).mono ?_; rintro e w1 ⟨p, v1, st, rfl, hp1, hp2, hl, ho, hb1⟩
  have hE1 := ho.el
  obtain ⟨av, nv, cv, rfl⟩ := ho.form
  obtain rfl : nv = st.length := ho.len
  clear ho
  go_wp2_with fail
  have hb2 : Below w1.heap.size w1 (w1.alloc (.cells #[.int .i64 p, .slice av st.length cv] 26)) := (by repeat (first | exact Below.refl _ _ | apply blw_drew | apply blw_alloc | (refine blw_set ?_ (by first | omega | (simp; done) | (simp; omega)) _) | refine below_chain ?_ (by assumption)))
  have hd2 : Bd (w1.alloc (.cells #[.int .i64 p, .slice av st.length cv] 26)) w1.heap.size (.int .i64 p) (.slice av st.length cv) := heap_alloc_new w1 _
  have hE2 := hE1.below hb2
  have hcD := (hc.bl hb1 (Nat.le_refl _)).bl (hb2.mono hb1.size) (Nat.le_refl _)
  have hbD := hb1.trans (hb2.mono hb1.size)
  clear hE1 hb2 hb1 hc
  generalize w1.alloc (.cells #[.int .i64 p, .slice av st.length cv] 26) = W1 at *
  generalize w1.heap.size = N1 at *
  refine (iCountPoints_c (p0 := p) hE2 (by omega)).mono ?_; rintro e w3 ⟨rfl, hb3⟩
  have hE3 := hE2.below hb3; have hd3 := hd2.below hb3
  have q0 := hd3.c0; have q1 := hd3.c1
  obtain ⟨k, hk⟩ : ∃ k, k = RCountPoints1 p st := ⟨_, rfl⟩
  obtain ⟨m, hm⟩ : ∃ m, m = RCountPoints0 p st := ⟨_, rfl⟩
  have hsc := fun W (h : El W (.slice av st.length cv) st) => sCountPoints_c (w := W) (p0 := p) h (by omega : st.length ≤ 1048576)
  have hno : k ≠ 0 → m = 0 := by rw [hk, hm]; exact RCountPoints_no
  simp only [← hk, ← hm] at hsc ⊢
  clear hk hm
  go_wp2_with fail
  refine (hsc _ hE3).mono ?_; rintro e w4 ⟨rfl, hb4⟩
  have hcE := (hcD.bl (hb3.mono hbD.size) (Nat.le_refl _)).bl (hb4.mono (Nat.le_trans hbD.size hb3.size)) (Nat.le_refl _)
  have hbE := (hbD.trans (hb3.mono hbD.size)).trans (hb4.mono (Nat.le_trans hbD.size hb3.size))
  clear hsc hE3 hE2 hd3 hd2 q0 q1 hcD hbD hb3 hb4
  by_cases hk0 : k = 0
  case neg =>
    obtain rfl := hno hk0
    have hkb : (k == 0) = false := by simpa using hk0
    clear hno
    go_wp2_with fail
    go_ret
    exact ⟨rfl, hbE⟩
  subst hk0
  clear hno
  go_wp2_with fail
  refine (droll_c (hcE.wide hbE.size)).mono ?_; rintro e w5 ⟨rfl, hs5, hz5, hb5⟩
  have hbF := hbE.trans (hb5.mono hbE.size)
  have hqw : w.heap.size ≤ w4.heap.size := hbE.size
  clear hbE hb5 hcE
  obtain ⟨q, hq⟩ : ∃ q, q = w4.heap.size := ⟨_, rfl⟩
  rw [← hq] at hs5 hz5 hqw ⊢
  clear hq
  have HZ5 := Lib.hid hz5; clear hz5
  go_wp2_with fail
  have hz5 := HZ5.out
  have hb6 : Below w5.heap.size w5 (w5.alloc (.cells #[.int .i64 3, .slice none 0 0] 26)) := (by repeat (first | exact Below.refl _ _ | apply blw_drew | apply blw_alloc | (refine blw_set ?_ (by first | omega | (simp; done) | (simp; omega)) _) | refine below_chain ?_ (by assumption)))
  have hd6 : Bd (w5.alloc (.cells #[.int .i64 3, .slice none 0 0] 26)) w5.heap.size (.int .i64 3) (.slice none 0 0) := heap_alloc_new w5 _
  have hz6 : (w5.alloc (.cells #[.int .i64 3, .slice none 0 0] 26)).heap.size = w5.heap.size + 1 := by simp
  have hs6 := hs5.bl hb6 (by omega)
  have hbG := hbF.trans (hb6.mono hbF.size)
  clear hb6 hbF hs5
  obtain ⟨N, hN⟩ : ∃ N, N = w5.heap.size := ⟨_, rfl⟩
  rw [← hN] at hd6 hz6 hz5 ⊢
  generalize w5.alloc (.cells #[.int .i64 3, .slice none 0 0] 26) = W6 at *
  clear hN
  have hNq : N = q + 1 := hz5
  have HNQ := Lib.hid hNq; clear hNq hz5
  refine (dbelow_c hs6 (by decide) (by decide)).mono ?_; rintro e w7 ⟨x, rfl, hx0, hx1, hs7, hc7, hz7⟩
  have hd7 := hd6.chg hc7 (.inr (by have := HNQ.out; omega))
  have hbH := below_bchg hbG hc7 hqw hbG.size
  have hz8 : N + 1 = w7.heap.size := by omega
  have HZ := Lib.hid hz8; clear hz8 hz7 hz6 hd6 hs6 hbG hc7
  by_cases hx : x = 0
  case neg =>
    have hxb : (x == 0) = false := by simpa using hx
    have e0 := hd7.c0; have e1 := hd7.c1
    have hM := cnt_fin1
    have hEs : El w7 (.slice none 0 0) [] := El.nil _
    have hds : Bd w7 N (.int .i64 3) (.slice none 0 0) := hd7
    have hbs : Below w.heap.size w w7 := hbH
    generalize w7 = WS at *
    have ec1 := hds.c1
    go_wp2_with fail
    go_loop [11, 12] (fun al i => ∃ (j : Nat) (z : Int), j ≤ 3 ∧ i = .int .i64 j ∧ al = .int .i64 z ∧ z = 27 * 3 ^ j) (fun _ i => 3 - (intOf i).toNat)
    case atStart => exact ⟨0, 27, by decide, rfl, rfl, rfl⟩
    case round =>
      obtain ⟨j, z, hj, rfl, rfl, hz⟩ := hrel
      have hzb := p27 (j := j) (by omega)
      rw [← hz] at hzb
      have HZ2 := Lib.hid hz; clear hz
      by_cases hlt : j < 3
      · go_wp2
        go_round
        case rel => exact ⟨j + 1, z * 3, by omega, by go_num, rfl, by rw [HZ2.out, Int.pow_succ, Int.mul_assoc]⟩
        case measure => simp [intOf]; omega
      · obtain rfl : j = 3 := by omega
        obtain rfl : z = 729 := by rw [HZ2.out]; rfl
        clear HZ2 hzb
        go_wp2
        go_loopw [13, 14] (fun ct i wr => ∃ (k ck : Nat), k ≤ 729 ∧ i = .int .i64 k ∧ ct = .int .i64 ck ∧ ck = cntU (ptN [] 1) k ∧ Below WS.heap.size WS wr) (fun _ i _ => 729 - (intOf i).toNat)
        case atStart => exact ⟨0, 0, by decide, rfl, rfl, rfl, Below.refl _ _⟩
        case round =>
          obtain ⟨k, ck, hk, rfl, rfl, hck, hbr⟩ := hrel
          generalize wr = wo at *
          have hcb := cntU_le (ptN [] 1) k
          rw [← hck] at hcb
          have HCK := Lib.hid hck; clear hck
          have hdr := hds.below hbr; have hEr := hEs.below hbr
          by_cases hlt : k < 729
          · have hbn : Below wo.heap.size wo (wo.alloc (.cells #[] 2)) := (by repeat (first | exact Below.refl _ _ | apply blw_drew | apply blw_alloc | (refine blw_set ?_ (by first | omega | (simp; done) | (simp; omega)) _) | refine below_chain ?_ (by assumption)))
            have hdec : decide ((k : Int) < 729) = true := decide_eq_true (by omega)
            go_wp2_with fail
            have HLT := Lib.hid hlt; clear hlt
            go_loopw [15, 16, 17] (fun dv qv jv wx => ∃ (m qq : Nat), m ≤ 6 ∧ jv = .int .i64 m ∧ qv = .int .i64 qq ∧ qq ≤ k ∧ qq = k / 3 ^ m ∧ OwN wx wo.heap.size dv (rowN k 0 m) ∧ Below wo.heap.size wo wx) (fun _ _ jv _ => 6 - (intOf jv).toNat)
            case atStart => exact ⟨0, k, by decide, rfl, rfl, Nat.le_refl _, by simp, OwN.new (Nat.le_refl _), hbn⟩
            case round =>
              clear hbn
              obtain ⟨m, qq, hm, rfl, rfl, hqk, hqq, hox, hbx⟩ := hrel
              have hnx := dig_next hqq
              have HQ := Lib.hid hqq; clear hqq
              by_cases hlt2 : m < 6
              · have HX := Lib.hid hnx; clear hnx
                have hlen := rowN_len k 0 m
                have HL := Lib.hid hlen; clear hlen
                have hsx := hbx.size
                obtain ⟨ad, nd, cd, rfl⟩ := hox.form
                go_wp2_with (at_builtin; refine appn_one rfl _ _ rfl wr wo.heap.size _ rfl (.slice ad nd cd) (rowN k 0 m) rfl ((qq : Int) % 3) 1 rfl hox hsx (by have := HL.out; omega) ?_; intro g' cap' w' hown' hgb' hg' hge)
                go_wp2_with fail
                go_roundw
                case rel =>
                  refine ⟨m + 1, qq / 3, by omega, by go_num, by go_num, by omega, HX.out.2, ?_, hbx.trans hgb'⟩
                  have e : rowN k 0 (m + 1) = rowN k 0 m ++ [(qq : Int) % 3] := by rw [HX.out.1]; rfl
                  rw [e]
                  exact hown'
                case measure => simp [intOf]; omega
              · obtain rfl : m = 6 := by omega
                clear hnx HQ
                obtain ⟨gg, cap, rfl, hcap1, hcap2, hAt⟩ := hox.atN (rowN_len k 0 6) (by decide)
                have hdx := (hdr.below hbx); have hEx := hEr.below hbx
                have hbq := hbr.trans (hbx.mono hbr.size)
                have hWq : WS.heap.size ≤ wr.heap.size := hbq.size
                clear hox hbx
                have hdD := hdx.below (show Below wr.heap.size wr wr.drew from (by repeat (first | exact Below.refl _ _ | apply blw_drew | apply blw_alloc | (refine blw_set ?_ (by first | omega | (simp; done) | (simp; omega)) _) | refine below_chain ?_ (by assumption)))); have hED := hEx.below (show Below wr.heap.size wr wr.drew from (by repeat (first | exact Below.refl _ _ | apply blw_drew | apply blw_alloc | (refine blw_set ?_ (by first | omega | (simp; done) | (simp; omega)) _) | refine below_chain ?_ (by assumption))))
                have hAD : At wr.drew gg 0 (rowN k 0 6) := fun j hj => hAt j hj
                have hbD := hbq.drew
                have hpt := pt_chk (st := []) (s := 1) (i := k) (by decide) (by simp) (by rfl)
                go_upto_region 29 with fail
                refine region_flows [(0, 0), (1, 0), (2, 0), (3, 0), (4, 0), (5, 0), (6, 0), (7, 0), (8, 0), (9, 0), (10, 0), (11, 0), (12, 0), (13, 0), (14, 0), (15, 0), (16, 0), (17, 0)] [[(false, [(18, 4), (19, 0), (20, 4), (21, 4)])], [(false, [(20, 4), (18, 4), (19, 0), (21, 4)])]] (by kernel_rfl) ?_
                refine norm_K fun K hK => ?_
                change wpList _ _ _ [_, _, _, _, _, _, _, _, _, _, _, _, _, _, _, _, _, _] _ _
                generalize wr.drew = wq at *
                go_wp2_with fail
                refine hK _ _ fun segs hsegs => ?_
                clear hK K
                simp only [List.mem_cons, List.mem_nil_iff, or_false] at hsegs
                have hip := fun W (v : Value) (h1 : El W (.slice none 0 0) []) (h2 : Hv W v (matN 1 k)) => iIsPoint_c (w := W) (p0 := 3) h1 (by simp) h2 (matN_hsz (by decide))
                rw [hpt.1, hpt.2] at hip
                have hstep : ∀ b, ptN [] 1 k = b → (b = true ∧ ck + 1 = cntU (ptN [] 1) (k + 1)) ∨ (b = false ∧ ck = cntU (ptN [] 1) (k + 1)) := by
                  intro b hb
                  cases b
                  · exact .inr ⟨rfl, by rw [cntU_no hb]; exact HCK.out⟩
                  · exact .inl ⟨rfl, by rw [cntU_yes hb, HCK.out]⟩
                obtain ⟨b, hbb⟩ : ∃ b, b = ptN [] 1 k := ⟨_, rfl⟩
                have hstep := hstep b hbb.symm
                rw [← hbb] at hip
                clear hbb hpt
                rcases hsegs with rfl | rfl
                · skip
                  refine norm_K fun K hK => ?_
                  change wpList _ _ _ [_, _, _, _] _ _
                  obtain ⟨WX, hWX⟩ : ∃ W, W = ((wq.alloc (.cells #[.slice (some ⟨gg, 3, none⟩) 1 (cap - 3), .slice (some ⟨gg, 4, none⟩) 1 (cap - 4), .slice (some ⟨gg, 5, none⟩) 1 (cap - 5)] 24)).alloc (.cells #[.slice (some ⟨gg, 0, none⟩) 3 cap, .slice (some ⟨wq.heap.size, 0, none⟩) 3 3] 36)) := ⟨_, rfl⟩
                  have hbX : Below wq.heap.size wq WX := by rw [hWX]; exact (by repeat (first | exact Below.refl _ _ | apply blw_drew | apply blw_alloc | (refine blw_set ?_ (by first | omega | (simp; done) | (simp; omega)) _) | refine below_chain ?_ (by assumption)))
                  have x0 : WX.cell? ⟨wq.heap.size + 1, 0, none⟩ = some (.slice (some ⟨gg, 0, none⟩) 3 cap) := by rw [hWX]; simp [go_sem]
                  have x1 : WX.cell? ⟨wq.heap.size + 1, 1, none⟩ = some (.slice (some ⟨wq.heap.size, 0, none⟩) 3 3) := by rw [hWX]; simp [go_sem]
                  have hH : Hv WX (.agg #[.slice (some ⟨gg, 0, none⟩) 3 cap, .slice (some ⟨wq.heap.size, 0, none⟩) 3 3]) (matN 1 k) := mat_hv (by decide) (fun j hj => kept hbX (hAD j hj)) hcap1 hcap2 (by rw [hWX]; simp [go_sem]) (by rw [hWX]; simp [go_sem]) (by rw [hWX]; simp [go_sem])
                  go_wp2_with fail
                  first | (refine hK _ _ ⟨rfl, ?_⟩; clear hK K) | refine ⟨rfl, ?_⟩
                  rw [← hWX]
                  clear hWX
                  have hE3 := hED.below hbX; have hd3 := hdD.below hbX
                  have y0 := hd3.c0; have y1 := hd3.c1
                  have hbY := hbD.trans (hbX.mono (by have := hbD.size; omega))
                  go_wp2_with fail
                  refine (hip _ _ hE3 hH).mono ?_; rintro e w9 ⟨rfl, hb9⟩
                  have hbZ := hbY.trans (hb9.mono (by have := hbY.size; omega))
                  rcases hstep with ⟨rfl, hst⟩ | ⟨rfl, hst⟩
                  · have HST := Lib.hid hst; clear hst
                    go_wp2_with fail
                    go_roundw
                    case rel => exact ⟨k + 1, ck + 1, by have := HLT.out; omega, by go_num, by go_num, HST.out, hbZ⟩
                    case measure => have := HLT.out; simp [intOf]; omega
                  · have HST := Lib.hid hst; clear hst
                    go_wp2_with fail
                    go_roundw
                    case rel => exact ⟨k + 1, ck, by have := HLT.out; omega, by go_num, rfl, HST.out, hbZ⟩
                    case measure => have := HLT.out; simp [intOf]; omega
                · skip
                  refine norm_K fun K hK => ?_
                  change wpList _ _ _ [_, _, _, _] _ _
                  obtain ⟨WX, hWX⟩ : ∃ W, W = ((wq.alloc (.cells #[.slice (some ⟨gg, 0, none⟩) 3 cap, .slice (some ⟨wq.heap.size + 1, 0, none⟩) 3 3] 36)).alloc (.cells #[.slice (some ⟨gg, 3, none⟩) 1 (cap - 3), .slice (some ⟨gg, 4, none⟩) 1 (cap - 4), .slice (some ⟨gg, 5, none⟩) 1 (cap - 5)] 24)) := ⟨_, rfl⟩
                  have hbX : Below wq.heap.size wq WX := by rw [hWX]; exact (by repeat (first | exact Below.refl _ _ | apply blw_drew | apply blw_alloc | (refine blw_set ?_ (by first | omega | (simp; done) | (simp; omega)) _) | refine below_chain ?_ (by assumption)))
                  have x0 : WX.cell? ⟨wq.heap.size, 0, none⟩ = some (.slice (some ⟨gg, 0, none⟩) 3 cap) := by rw [hWX]; simp [go_sem]
                  have x1 : WX.cell? ⟨wq.heap.size, 1, none⟩ = some (.slice (some ⟨wq.heap.size + 1, 0, none⟩) 3 3) := by rw [hWX]; simp [go_sem]
                  have hH : Hv WX (.agg #[.slice (some ⟨gg, 0, none⟩) 3 cap, .slice (some ⟨wq.heap.size + 1, 0, none⟩) 3 3]) (matN 1 k) := mat_hv (by decide) (fun j hj => kept hbX (hAD j hj)) hcap1 hcap2 (by rw [hWX]; simp [go_sem]) (by rw [hWX]; simp [go_sem]) (by rw [hWX]; simp [go_sem])
                  go_wp2_with fail
                  first | (refine hK _ _ ⟨rfl, ?_⟩; clear hK K) | refine ⟨rfl, ?_⟩
                  rw [← hWX]
                  clear hWX
                  have hE3 := hED.below hbX; have hd3 := hdD.below hbX
                  have y0 := hd3.c0; have y1 := hd3.c1
                  have hbY := hbD.trans (hbX.mono (by have := hbD.size; omega))
                  go_wp2_with fail
                  refine (hip _ _ hE3 hH).mono ?_; rintro e w9 ⟨rfl, hb9⟩
                  have hbZ := hbY.trans (hb9.mono (by have := hbY.size; omega))
                  rcases hstep with ⟨rfl, hst⟩ | ⟨rfl, hst⟩
                  · have HST := Lib.hid hst; clear hst
                    go_wp2_with fail
                    go_roundw
                    case rel => exact ⟨k + 1, ck + 1, by have := HLT.out; omega, by go_num, by go_num, HST.out, hbZ⟩
                    case measure => have := HLT.out; simp [intOf]; omega
                  · have HST := Lib.hid hst; clear hst
                    go_wp2_with fail
                    go_roundw
                    case rel => exact ⟨k + 1, ck, by have := HLT.out; omega, by go_num, rfl, HST.out, hbZ⟩
                    case measure => have := HLT.out; simp [intOf]; omega
          · obtain rfl : k = 729 := by omega
            have hq0 := hdr.c0; have hq1 := hdr.c1
            have hMc : (ck : Int) = 2 * RCountPoints0 3 [] := by rw [← hM.1, HCK.out]
            have hcp := iCountPoints_c (p0 := 3) hEr (by simp)
            obtain ⟨mm, hmm⟩ : ∃ m, m = RCountPoints0 3 [] := ⟨_, rfl⟩
            rw [hM.2, ← hmm] at hcp
            rw [← hmm] at hMc
            have hmb : mm ≤ 10000 ∧ 0 ≤ mm := by omega
            clear hmm hM HCK hcb
            go_wp2_with fail
            refine hcp.mono ?_; rintro e w9 ⟨rfl, hb9⟩
            have hMb : ((ck : Int) == 2 * mm) = true := by rw [beq_iff_eq]; exact hMc
            have HMC := Lib.hid hMc; clear hMc
            go_wp2_with fail
            go_ret
            exact ⟨rfl, (hbs.trans (hbr.mono hbs.size)).trans (hb9.mono (by have := hbs.size; have := hbr.size; omega))⟩
  subst hx
  have e1 := hd7.c1; have u1 := hd7.f 1
  go_wp2_with fail
  refine (dbelow_c hs7 (by decide) (by decide)).mono ?_; rintro e w8 ⟨y, rfl, hy0, hy1, hs8, hc8, hz8⟩
  have hd8 := hd7.chg hc8 (.inr (by have := HNQ.out; omega))
  have hbI := below_bchg hbH hc8 hqw hbH.size
  have hzz : N + 1 ≤ w8.heap.size := by have := HZ.out; omega
  have hy2 : y < 2 := by omega
  clear hy1 hz8 hc8 hs8 hs7 hd7 hbH e1 u1 HZ
  have e1 := hd8.c1; have u1 := hd8.f 1
  have hg : 1 + y = 1 ∨ 1 + y = 2 := by omega
  obtain ⟨g, hgy⟩ : ∃ g, g = 1 + y := ⟨_, rfl⟩
  have hbA : Below w8.heap.size w8 (w8.alloc (.cells #[.int .i64 (1 + y)] 2)) := (by repeat (first | exact Below.refl _ _ | apply blw_drew | apply blw_alloc | (refine blw_set ?_ (by first | omega | (simp; done) | (simp; omega)) _) | refine below_chain ?_ (by assumption)))
  have hoA : OwnI (w8.alloc (.cells #[.int .i64 (1 + y)] 2)) w8.heap.size w8.heap.size 1 1 [1 + y] := by
    have h := OwnI.lit (w := w8) (B := w8.heap.size) (Nat.le_refl _) [1 + y] (by simp)
    simpa using h
  have hdA := hd8.below hbA
  have hdB := hdA.set1 (.slice (some ⟨w8.heap.size, 0, none⟩) 1 1)
  have hbJ := hbI.trans (hbA.mono hbI.size)
  have hbK := hbJ.setCell (p := ⟨N, 1, none⟩) (by show w.heap.size ≤ N; have := HNQ.out; omega) (.slice (some ⟨w8.heap.size, 0, none⟩) 1 1)
  have hoB := OwN.setN (N := N) (k := 1) (v := .slice (some ⟨w8.heap.size, 0, none⟩) 1 1) (FrI.own ⟨_, _, rfl, hoA⟩) (fun g hg => by have e : w8.heap.size = g := Option.some.inj hg; omega) (.slice (some ⟨w8.heap.size, 0, none⟩) 1 1)
  have hEB := hoB.el
  rw [← hgy] at hg
  have e1y : [1 + y] = [g] := by rw [hgy]
  rw [e1y] at hEB
  clear e1y
  clear hgy
  have ua := hdA.f 1; have ea := hdA.c1
  clear hdA hbA hoA hoB hbJ hbI hd8 e1 u1
  go_upto_region 14 with fail
  have hM := (cnt_fin2 hg)
  have hEs : El ((w8.alloc (.cells #[.int .i64 (1 + y)] 2)).setCell ⟨N, 1, none⟩ (.slice (some ⟨w8.heap.size, 0, none⟩) 1 1)) (.slice (some ⟨w8.heap.size, 0, none⟩) 1 1) [g] := hEB
  have hds : Bd ((w8.alloc (.cells #[.int .i64 (1 + y)] 2)).setCell ⟨N, 1, none⟩ (.slice (some ⟨w8.heap.size, 0, none⟩) 1 1)) N (.int .i64 3) (.slice (some ⟨w8.heap.size, 0, none⟩) 1 1) := hdB
  have hbs : Below w.heap.size w ((w8.alloc (.cells #[.int .i64 (1 + y)] 2)).setCell ⟨N, 1, none⟩ (.slice (some ⟨w8.heap.size, 0, none⟩) 1 1)) := hbK
  generalize (w8.alloc (.cells #[.int .i64 (1 + y)] 2)).setCell ⟨N, 1, none⟩ (.slice (some ⟨w8.heap.size, 0, none⟩) 1 1) = WS at *
  have ec1 := hds.c1
  go_wp2_with fail
  go_loop [11, 12] (fun al i => ∃ (j : Nat) (z : Int), j ≤ 6 ∧ i = .int .i64 j ∧ al = .int .i64 z ∧ z = 27 * 3 ^ j) (fun _ i => 6 - (intOf i).toNat)
  case atStart => exact ⟨0, 27, by decide, rfl, rfl, rfl⟩
  case round =>
    obtain ⟨j, z, hj, rfl, rfl, hz⟩ := hrel
    have hzb := p27 (j := j) (by omega)
    rw [← hz] at hzb
    have HZ2 := Lib.hid hz; clear hz
    by_cases hlt : j < 6
    · go_wp2
      go_round
      case rel => exact ⟨j + 1, z * 3, by omega, by go_num, rfl, by rw [HZ2.out, Int.pow_succ, Int.mul_assoc]⟩
      case measure => simp [intOf]; omega
    · obtain rfl : j = 6 := by omega
      obtain rfl : z = 19683 := by rw [HZ2.out]; rfl
      clear HZ2 hzb
      go_wp2
      go_loopw [13, 14] (fun ct i wr => ∃ (k ck : Nat), k ≤ 19683 ∧ i = .int .i64 k ∧ ct = .int .i64 ck ∧ ck = cntU (ptN [g] 2) k ∧ Below WS.heap.size WS wr) (fun _ i _ => 19683 - (intOf i).toNat)
      case atStart => exact ⟨0, 0, by decide, rfl, rfl, rfl, Below.refl _ _⟩
      case round =>
        obtain ⟨k, ck, hk, rfl, rfl, hck, hbr⟩ := hrel
        generalize wr = wo at *
        have hcb := cntU_le (ptN [g] 2) k
        rw [← hck] at hcb
        have HCK := Lib.hid hck; clear hck
        have hdr := hds.below hbr; have hEr := hEs.below hbr
        by_cases hlt : k < 19683
        · have hbn : Below wo.heap.size wo (wo.alloc (.cells #[] 2)) := (by repeat (first | exact Below.refl _ _ | apply blw_drew | apply blw_alloc | (refine blw_set ?_ (by first | omega | (simp; done) | (simp; omega)) _) | refine below_chain ?_ (by assumption)))
          have hdec : decide ((k : Int) < 19683) = true := decide_eq_true (by omega)
          go_wp2_with fail
          have HLT := Lib.hid hlt; clear hlt
          go_loopw [15, 16, 17] (fun dv qv jv wx => ∃ (m qq : Nat), m ≤ 9 ∧ jv = .int .i64 m ∧ qv = .int .i64 qq ∧ qq ≤ k ∧ qq = k / 3 ^ m ∧ OwN wx wo.heap.size dv (rowN k 0 m) ∧ Below wo.heap.size wo wx) (fun _ _ jv _ => 9 - (intOf jv).toNat)
          case atStart => exact ⟨0, k, by decide, rfl, rfl, Nat.le_refl _, by simp, OwN.new (Nat.le_refl _), hbn⟩
          case round =>
            clear hbn
            obtain ⟨m, qq, hm, rfl, rfl, hqk, hqq, hox, hbx⟩ := hrel
            have hnx := dig_next hqq
            have HQ := Lib.hid hqq; clear hqq
            by_cases hlt2 : m < 9
            · have HX := Lib.hid hnx; clear hnx
              have hlen := rowN_len k 0 m
              have HL := Lib.hid hlen; clear hlen
              have hsx := hbx.size
              obtain ⟨ad, nd, cd, rfl⟩ := hox.form
              go_wp2_with (at_builtin; refine appn_one rfl _ _ rfl wr wo.heap.size _ rfl (.slice ad nd cd) (rowN k 0 m) rfl ((qq : Int) % 3) 1 rfl hox hsx (by have := HL.out; omega) ?_; intro g' cap' w' hown' hgb' hg' hge)
              go_wp2_with fail
              go_roundw
              case rel =>
                refine ⟨m + 1, qq / 3, by omega, by go_num, by go_num, by omega, HX.out.2, ?_, hbx.trans hgb'⟩
                have e : rowN k 0 (m + 1) = rowN k 0 m ++ [(qq : Int) % 3] := by rw [HX.out.1]; rfl
                rw [e]
                exact hown'
              case measure => simp [intOf]; omega
            · obtain rfl : m = 9 := by omega
              clear hnx HQ
              obtain ⟨gg, cap, rfl, hcap1, hcap2, hAt⟩ := hox.atN (rowN_len k 0 9) (by decide)
              have hdx := (hdr.below hbx); have hEx := hEr.below hbx
              have hbq := hbr.trans (hbx.mono hbr.size)
              have hWq : WS.heap.size ≤ wr.heap.size := hbq.size
              clear hox hbx
              have hdD := hdx.below (show Below wr.heap.size wr wr.drew from (by repeat (first | exact Below.refl _ _ | apply blw_drew | apply blw_alloc | (refine blw_set ?_ (by first | omega | (simp; done) | (simp; omega)) _) | refine below_chain ?_ (by assumption)))); have hED := hEx.below (show Below wr.heap.size wr wr.drew from (by repeat (first | exact Below.refl _ _ | apply blw_drew | apply blw_alloc | (refine blw_set ?_ (by first | omega | (simp; done) | (simp; omega)) _) | refine below_chain ?_ (by assumption))))
              have hAD : At wr.drew gg 0 (rowN k 0 9) := fun j hj => hAt j hj
              have hbD := hbq.drew
              have hpt := pt_chk (st := [g]) (s := 2) (i := k) (by rcases hg with rfl | rfl <;> decide) (by simp) (by rfl)
              go_upto_region 29 with fail
              refine region_flows [(0, 0), (1, 0), (2, 0), (3, 0), (4, 0), (5, 0), (6, 0), (7, 0), (8, 0), (9, 0), (10, 0), (11, 0), (12, 0), (13, 0), (14, 0), (15, 0), (16, 0), (17, 0)] [[(false, [(18, 4), (19, 0), (20, 4), (21, 4)])], [(false, [(20, 4), (18, 4), (19, 0), (21, 4)])]] (by kernel_rfl) ?_
              refine norm_K fun K hK => ?_
              change wpList _ _ _ [_, _, _, _, _, _, _, _, _, _, _, _, _, _, _, _, _, _] _ _
              generalize wr.drew = wq at *
              go_wp2_with fail
              refine hK _ _ fun segs hsegs => ?_
              clear hK K
              simp only [List.mem_cons, List.mem_nil_iff, or_false] at hsegs
              have hip := fun W (v : Value) (h1 : El W (.slice (some ⟨w8.heap.size, 0, none⟩) 1 1) [g]) (h2 : Hv W v (matN 2 k)) => iIsPoint_c (w := W) (p0 := 3) h1 (by simp) h2 (matN_hsz (by decide))
              rw [hpt.1, hpt.2] at hip
              have hstep : ∀ b, ptN [g] 2 k = b → (b = true ∧ ck + 1 = cntU (ptN [g] 2) (k + 1)) ∨ (b = false ∧ ck = cntU (ptN [g] 2) (k + 1)) := by
                intro b hb
                cases b
                · exact .inr ⟨rfl, by rw [cntU_no hb]; exact HCK.out⟩
                · exact .inl ⟨rfl, by rw [cntU_yes hb, HCK.out]⟩
              obtain ⟨b, hbb⟩ : ∃ b, b = ptN [g] 2 k := ⟨_, rfl⟩
              have hstep := hstep b hbb.symm
              rw [← hbb] at hip
              clear hbb hpt
              rcases hsegs with rfl | rfl
              · skip
                refine norm_K fun K hK => ?_
                change wpList _ _ _ [_, _, _, _] _ _
                obtain ⟨WX, hWX⟩ : ∃ W, W = ((wq.alloc (.cells #[.slice (some ⟨gg, 3, none⟩) 2 (cap - 3), .slice (some ⟨gg, 5, none⟩) 2 (cap - 5), .slice (some ⟨gg, 7, none⟩) 2 (cap - 7)] 24)).alloc (.cells #[.slice (some ⟨gg, 0, none⟩) 3 cap, .slice (some ⟨wq.heap.size, 0, none⟩) 3 3] 36)) := ⟨_, rfl⟩
                have hbX : Below wq.heap.size wq WX := by rw [hWX]; exact (by repeat (first | exact Below.refl _ _ | apply blw_drew | apply blw_alloc | (refine blw_set ?_ (by first | omega | (simp; done) | (simp; omega)) _) | refine below_chain ?_ (by assumption)))
                have x0 : WX.cell? ⟨wq.heap.size + 1, 0, none⟩ = some (.slice (some ⟨gg, 0, none⟩) 3 cap) := by rw [hWX]; simp [go_sem]
                have x1 : WX.cell? ⟨wq.heap.size + 1, 1, none⟩ = some (.slice (some ⟨wq.heap.size, 0, none⟩) 3 3) := by rw [hWX]; simp [go_sem]
                have hH : Hv WX (.agg #[.slice (some ⟨gg, 0, none⟩) 3 cap, .slice (some ⟨wq.heap.size, 0, none⟩) 3 3]) (matN 2 k) := mat_hv (by decide) (fun j hj => kept hbX (hAD j hj)) hcap1 hcap2 (by rw [hWX]; simp [go_sem]) (by rw [hWX]; simp [go_sem]) (by rw [hWX]; simp [go_sem])
                go_wp2_with fail
                first | (refine hK _ _ ⟨rfl, ?_⟩; clear hK K) | refine ⟨rfl, ?_⟩
                rw [← hWX]
                clear hWX
                have hE3 := hED.below hbX; have hd3 := hdD.below hbX
                have y0 := hd3.c0; have y1 := hd3.c1
                have hbY := hbD.trans (hbX.mono (by have := hbD.size; omega))
                go_wp2_with fail
                refine (hip _ _ hE3 hH).mono ?_; rintro e w9 ⟨rfl, hb9⟩
                have hbZ := hbY.trans (hb9.mono (by have := hbY.size; omega))
                rcases hstep with ⟨rfl, hst⟩ | ⟨rfl, hst⟩
                · have HST := Lib.hid hst; clear hst
                  go_wp2_with fail
                  go_roundw
                  case rel => exact ⟨k + 1, ck + 1, by have := HLT.out; omega, by go_num, by go_num, HST.out, hbZ⟩
                  case measure => have := HLT.out; simp [intOf]; omega
                · have HST := Lib.hid hst; clear hst
                  go_wp2_with fail
                  go_roundw
                  case rel => exact ⟨k + 1, ck, by have := HLT.out; omega, by go_num, rfl, HST.out, hbZ⟩
                  case measure => have := HLT.out; simp [intOf]; omega
              · skip
                refine norm_K fun K hK => ?_
                change wpList _ _ _ [_, _, _, _] _ _
                obtain ⟨WX, hWX⟩ : ∃ W, W = ((wq.alloc (.cells #[.slice (some ⟨gg, 0, none⟩) 3 cap, .slice (some ⟨wq.heap.size + 1, 0, none⟩) 3 3] 36)).alloc (.cells #[.slice (some ⟨gg, 3, none⟩) 2 (cap - 3), .slice (some ⟨gg, 5, none⟩) 2 (cap - 5), .slice (some ⟨gg, 7, none⟩) 2 (cap - 7)] 24)) := ⟨_, rfl⟩
                have hbX : Below wq.heap.size wq WX := by rw [hWX]; exact (by repeat (first | exact Below.refl _ _ | apply blw_drew | apply blw_alloc | (refine blw_set ?_ (by first | omega | (simp; done) | (simp; omega)) _) | refine below_chain ?_ (by assumption)))
                have x0 : WX.cell? ⟨wq.heap.size, 0, none⟩ = some (.slice (some ⟨gg, 0, none⟩) 3 cap) := by rw [hWX]; simp [go_sem]
                have x1 : WX.cell? ⟨wq.heap.size, 1, none⟩ = some (.slice (some ⟨wq.heap.size + 1, 0, none⟩) 3 3) := by rw [hWX]; simp [go_sem]
                have hH : Hv WX (.agg #[.slice (some ⟨gg, 0, none⟩) 3 cap, .slice (some ⟨wq.heap.size + 1, 0, none⟩) 3 3]) (matN 2 k) := mat_hv (by decide) (fun j hj => kept hbX (hAD j hj)) hcap1 hcap2 (by rw [hWX]; simp [go_sem]) (by rw [hWX]; simp [go_sem]) (by rw [hWX]; simp [go_sem])
                go_wp2_with fail
                first | (refine hK _ _ ⟨rfl, ?_⟩; clear hK K) | refine ⟨rfl, ?_⟩
                rw [← hWX]
                clear hWX
                have hE3 := hED.below hbX; have hd3 := hdD.below hbX
                have y0 := hd3.c0; have y1 := hd3.c1
                have hbY := hbD.trans (hbX.mono (by have := hbD.size; omega))
                go_wp2_with fail
                refine (hip _ _ hE3 hH).mono ?_; rintro e w9 ⟨rfl, hb9⟩
                have hbZ := hbY.trans (hb9.mono (by have := hbY.size; omega))
                rcases hstep with ⟨rfl, hst⟩ | ⟨rfl, hst⟩
                · have HST := Lib.hid hst; clear hst
                  go_wp2_with fail
                  go_roundw
                  case rel => exact ⟨k + 1, ck + 1, by have := HLT.out; omega, by go_num, by go_num, HST.out, hbZ⟩
                  case measure => have := HLT.out; simp [intOf]; omega
                · have HST := Lib.hid hst; clear hst
                  go_wp2_with fail
                  go_roundw
                  case rel => exact ⟨k + 1, ck, by have := HLT.out; omega, by go_num, rfl, HST.out, hbZ⟩
                  case measure => have := HLT.out; simp [intOf]; omega
        · obtain rfl : k = 19683 := by omega
          have hq0 := hdr.c0; have hq1 := hdr.c1
          have hMc : (ck : Int) = 2 * RCountPoints0 3 [g] := by rw [← hM.1, HCK.out]
          have hcp := iCountPoints_c (p0 := 3) hEr (by simp)
          obtain ⟨mm, hmm⟩ : ∃ m, m = RCountPoints0 3 [g] := ⟨_, rfl⟩
          rw [hM.2, ← hmm] at hcp
          rw [← hmm] at hMc
          have hmb : mm ≤ 10000 ∧ 0 ≤ mm := by omega
          clear hmm hM HCK hcb
          go_wp2_with fail
          refine hcp.mono ?_; rintro e w9 ⟨rfl, hb9⟩
          have hMb : ((ck : Int) == 2 * mm) = true := by rw [beq_iff_eq]; exact hMc
          have HMC := Lib.hid hMc; clear hMc
          go_wp2_with fail
          go_ret
          exact ⟨rfl, (hbs.trans (hbr.mono hbs.size)).trans (hb9.mono (by have := hbs.size; have := hbr.size; omega))⟩
end Go.Proofs.Ytapklfdojbicpaa
