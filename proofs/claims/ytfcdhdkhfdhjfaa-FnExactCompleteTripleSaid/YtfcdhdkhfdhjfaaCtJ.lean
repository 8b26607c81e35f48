/-
  CompleteTriple: the reference's function, walked.
-/
import Derived.Test.YtfcdhdkhfdhjfaaJbs
namespace Go.Proofs.Ytfcdhdkhfdhjfaa
open Go.RowKit

theorem Rs.nil_ (w : World) : Rs w (.slice none 0 0) [] := (Re.nil w).rs
set_option maxHeartbeats 8000000 in
set_option maxRecDepth 100000 in
theorem sCompleteTriple_c {p : Int} {x m : Value} {st : List Int} {M : List (List Int)} {w : World} (hx : El w x st) (hm0 : st.length ≤ 1048576) (hA : Re w m M) (hz : Msz M) :
    Calls Try.prog 6 #[.agg #[.int .i64 p, x], m] w fun e w' => ∃ a b c, e = .returned (.tuple #[.agg #[a, b, c], .int .i64 (RCompleteTriple1 p st M)]) ∧ (Rs w' a (RCompleteTriple0 p st M).A ∧ Rs w' b (RCompleteTriple0 p st M).B ∧ Rs w' c (RCompleteTriple0 p st M).C) ∧ Below w.heap.size w w' := by
  obtain ⟨a0, c0, rfl, _⟩ := id hx.op
  obtain ⟨a1, c1, rfl, _⟩ := id hA
  obtain ⟨W, hW⟩ : ∃ W, W = (((w.alloc (.cells #[.int .i64 p, .slice a0 st.length c0] 32)).alloc (.cells #[.slice none 0 0, .slice none 0 0, .slice none 0 0] 29)).alloc (.cells #[.slice a1 M.length c1] 25)) := ⟨_, rfl⟩
  have hbW : Below w.heap.size w W := by rw [hW]; exact (by repeat (first | exact .refl _ _ | apply bwD | apply bwA | (refine bwS ?_ (by first | omega | simp <;> omega) _) | refine bwC ?_ (by assumption)))
  have hx := hx.below hbW; have hA := hA.below hbW
  have d0 : W.cell? ⟨w.heap.size, 0, none⟩ = some (.int .i64 p) := by rw [hW]; simp [go_sem]
  have d1 : W.cell? ⟨w.heap.size, 1, none⟩ = some (.slice a0 st.length c0) := by rw [hW]; simp [go_sem]
  have hr : Bt W (w.heap.size + 1) (.slice none 0 0) (.slice none 0 0) (.slice none 0 0) := by
    rw [hW]
    refine Bt.below (w := (w.alloc (.cells #[.int .i64 p, .slice a0 st.length c0] 32)).alloc (.cells #[.slice none 0 0, .slice none 0 0, .slice none 0 0] 29)) ?_ (by repeat (first | exact .refl _ _ | apply bwD | apply bwA | (refine bwS ?_ (by first | omega | simp <;> omega) _) | refine bwC ?_ (by assumption)))
    unfold Bt
    rw [show w.heap.size + 1 = (w.alloc (.cells #[.int .i64 p, .slice a0 st.length c0] 32)).heap.size by simp]
    exact heap_alloc_new _ _
  have hml : W.cell? ⟨w.heap.size + 1 + 1, 0, none⟩ = some (.slice a1 M.length c1) := by rw [hW]; simp [go_sem]
  have hWs : W.heap.size = w.heap.size + 1 + 1 + 1 := by rw [hW]; simp
  have hcon := stwo_c (p := p) (k := 1) hx hml hA hm0 hz
  have HWs := Lib.hid hWs; clear hWs hml
  rw [hW] at hcon
  have ERR : ∀ (k : Int) (wz : World), Bt wz (w.heap.size + 1) (.slice none 0 0) (.slice none 0 0) (.slice none 0 0) → Below w.heap.size w wz → RCompleteTriple1 p st M = k → k ≠ 0 → ∃ a b c, Ending.returned (.tuple #[.agg #[.slice none 0 0, .slice none 0 0, .slice none 0 0], .int .i64 k]) = .returned (.tuple #[.agg #[a, b, c], .int .i64 (RCompleteTriple1 p st M)]) ∧ (Rs (((wz.setCell ⟨w.heap.size + 1, 0, none⟩ (.slice none 0 0)).setCell ⟨w.heap.size + 1, 1, none⟩ (.slice none 0 0)).setCell ⟨w.heap.size + 1, 2, none⟩ (.slice none 0 0)) a (RCompleteTriple0 p st M).A ∧ Rs (((wz.setCell ⟨w.heap.size + 1, 0, none⟩ (.slice none 0 0)).setCell ⟨w.heap.size + 1, 1, none⟩ (.slice none 0 0)).setCell ⟨w.heap.size + 1, 2, none⟩ (.slice none 0 0)) b (RCompleteTriple0 p st M).B ∧ Rs (((wz.setCell ⟨w.heap.size + 1, 0, none⟩ (.slice none 0 0)).setCell ⟨w.heap.size + 1, 1, none⟩ (.slice none 0 0)).setCell ⟨w.heap.size + 1, 2, none⟩ (.slice none 0 0)) c (RCompleteTriple0 p st M).C) ∧ Below w.heap.size w (((wz.setCell ⟨w.heap.size + 1, 0, none⟩ (.slice none 0 0)).setCell ⟨w.heap.size + 1, 1, none⟩ (.slice none 0 0)).setCell ⟨w.heap.size + 1, 2, none⟩ (.slice none 0 0)) := by
    intro k wz _ hb e hk
    have e0 : RCompleteTriple0 p st M = ⟨[], [], []⟩ := if_neg (by rw [e]; exact hk)
    rw [e, e0]
    exact ⟨_, _, _, rfl, ⟨Rs.nil_ _, Rs.nil_ _, Rs.nil_ _⟩, bwS (bwS (bwS hb (by simp) _) (by simp) _) (by simp) _⟩
  have HERR := Lib.hid ERR; clear ERR
  by_cases h0 : chkT p st [M] = 0
  case neg =>
    have e1 : RCompleteTriple1 p st M = chkT p st [M] := if_neg h0
    obtain ⟨k, hk⟩ : ∃ k, k = chkT p st [M] := ⟨_, rfl⟩
    rw [← hk] at h0 hcon e1
    have HE := Lib.hid e1
    clear hk e1
    have hne : (k == 0) = false := by simpa using h0
    go_enter Try.func6, Try.ntmps6
    go_wp2_with fail
    refine hcon.mono ?_; rintro e w1 ⟨rfl, hb1⟩
    rw [← hW] at hb1
    clear hW hcon
    have hr := hr.below hb1
    have rc0 := hr.c0; have rc1 := hr.c1; have rc2 := hr.c2; have rf0 := hr.f 0; have rf1 := hr.f 1; have rf2 := hr.f 2
    go_wp2_with fail
    refine bodyPost_ret (v := .tuple #[.agg #[.slice none 0 0, .slice none 0 0, .slice none 0 0], .int .i64 k]) (by simp [results, Try.results6, go_sem, rc0, rc1, rc2]) rfl ?_
    exact HERR.out k w1 hr (bwC hbW hb1) HE.out h0
  rw [h0] at hcon
  obtain ⟨hd, hMb⟩ := chkT_one h0
  have hp1 := hd.hp.lo; have hp2 := hd.hp.hi; have hl3 := hd.hl
  by_cases h3 : st.length = 3
  case neg =>
    have HE := Lib.hid (show RCompleteTriple1 p st M = 5 by unfold RCompleteTriple1; rw [if_pos h0, if_neg (fun h => h3 h.1)])
    have h3b : ((st.length : Int) == 3) = false := by simp; omega
    clear h0
    go_enter Try.func6, Try.ntmps6
    go_wp2_with fail
    refine hcon.mono ?_; rintro e w1 ⟨rfl, hb1⟩
    rw [← hW] at hb1
    clear hW hcon
    have hr := hr.below hb1; have d0 := kept hb1 d0; have d1 := kept hb1 d1
    have rc0 := hr.c0; have rc1 := hr.c1; have rc2 := hr.c2; have rf0 := hr.f 0; have rf1 := hr.f 1; have rf2 := hr.f 2
    go_wp2_with fail
    refine bodyPost_ret (v := .tuple #[.agg #[.slice none 0 0, .slice none 0 0, .slice none 0 0], .int .i64 5]) (by simp [results, Try.results6, go_sem, rc0, rc1, rc2]) rfl ?_
    exact HERR.out 5 w1 hr (bwC hbW hb1) HE.out (by decide)
  by_cases hsk : skewB p (diagF p st) M = true
  case neg =>
    have HE := Lib.hid (show RCompleteTriple1 p st M = 5 by unfold RCompleteTriple1; rw [if_pos h0, if_neg (fun h => hsk h.2)])
    have hskf : skewB p (diagF p st) M = false := by simpa using hsk
    have hscon := fun W' (h1 : El W' (.slice a0 st.length c0) st) (h2 : Re W' (.slice a1 M.length c1) M) => sskew_c (w := W') hd h1 h2 hMb
    simp only [hskf] at hscon
    have h3n : ((st.length : Int) != 3) = false := by rw [h3]; rfl
    have H3 := Lib.hid h3
    clear h0 h3
    go_enter Try.func6, Try.ntmps6
    go_wp2_with fail
    refine hcon.mono ?_; rintro e w1 ⟨rfl, hb1⟩
    rw [← hW] at hb1
    clear hW hcon
    have hr := hr.below hb1; have d0 := kept hb1 d0; have d1 := kept hb1 d1; have hx := hx.below hb1; have hA := hA.below hb1
    go_wp2_with fail
    refine (hscon _ hx hA).mono ?_; rintro e w2 ⟨rfl, hb2⟩
    have hr := hr.below hb2
    have rc0 := hr.c0; have rc1 := hr.c1; have rc2 := hr.c2; have rf0 := hr.f 0; have rf1 := hr.f 1; have rf2 := hr.f 2
    go_wp2_with fail
    refine bodyPost_ret (v := .tuple #[.agg #[.slice none 0 0, .slice none 0 0, .slice none 0 0], .int .i64 5]) (by simp [results, Try.results6, go_sem, rc0, rc1, rc2]) rfl ?_
    exact HERR.out 5 w2 hr (bwC hbW (bwC hb1 hb2)) HE.out (by decide)
  have e1 : RCompleteTriple1 p st M = 0 := by unfold RCompleteTriple1; rw [if_pos h0, if_pos ⟨h3, hsk⟩]
  have e0 : RCompleteTriple0 p st M = cut3 8 (sumK p M.flatten (locN p st)) := if_pos e1
  have hscon := fun W' (h1 : El W' (.slice a0 st.length c0) st) (h2 : Re W' (.slice a1 M.length c1) M) => sskew_c (w := W') hd h1 h2 hMb
  simp only [hsk] at hscon
  obtain ⟨hfe, _, hlead, _, _⟩ := compl_mat hd h3 hMb hsk
  have h8 := sz3 h3
  have hK : Rref p 192 (locN p st) := by
    have e : locN p st = kerL p 192 (locP p st) := by unfold locN; rw [h8]
    rw [e]; exact kerL_rref hd.hp
  have hbas := fun W' (h1 : El W' (.slice a0 st.length c0) st) => sbasis15_c (w := W') hd h1
  have hcut := fun W' v xs (h1 : El W' (.slice a0 st.length c0) st) (h2 : El W' v xs) (hl : xs.length = 192) => scut15_c (w := W') (x := v) (xs := xs) hd h1 h2 (by rw [h8]; exact hl)
  rw [h8] at hMb hcut
  obtain ⟨hMl, hMw⟩ := matB_iff.1 hMb
  have hfl : ∀ l, l < 64 → M.flatten.getD l 0 = (M.getD (l / 8) []).getD (l % 8) 0 := fun l hl => by
    have e := flat_at (L := M) (n := 8) (r := l / 8) (i := l % 8) (fun r hr => (hMw r hr).1) (by omega) (Nat.mod_lt _ (by decide))
    rw [show l / 8 * 8 + l % 8 = l by omega] at e
    exact e
  have hfb : ∀ l, 0 ≤ M.flatten.getD l 0 ∧ M.flatten.getD l 0 < p := fun l => hfe.at (by omega) l
  obtain ⟨K, hKe⟩ : ∃ K, K = locN p st := ⟨_, rfl⟩
  obtain ⟨f, hf⟩ : ∃ f, f = M.flatten := ⟨_, rfl⟩
  simp only [← hKe] at hbas hlead hK e0
  simp only [← hf] at hfl hfb e0
  rw [e0, e1]
  clear hKe hf hfe hsk e0 e1 h0 HERR
  have hsl : ∀ k, k ≤ K.length → Ev p 192 (sumK p f (K.take k)) := fun k _ => Spn.ev (by omega) hK.rw_ (sum_spn (by omega) hK.rw_ (fun r hr => List.mem_of_mem_take hr) (Spn.zr (by omega) hK.rw_))
  have hss : ∀ k (h : k < K.length), sumK p f (K.take (k + 1)) = plusL p (sumK p f (K.take k)) (scaleL p K[k] (f.getD (leadN K[k]) 0)) 1 := fun k h => by
    unfold sumK; rw [List.take_succ_eq_append_getElem h, List.foldl_append]; rfl
  have HSL := Lib.hid hsl; have HSS := Lib.hid hss; have HFL := Lib.hid hfl; have HFB := Lib.hid hfb; have HLE := Lib.hid hlead
  clear hsl hss hfl hfb hlead
  have hKl : K.length ≤ 192 := hK.short
  have h3n : ((st.length : Int) != 3) = false := by rw [h3]; rfl
  have H3 := Lib.hid h3
  clear h3 h8
  obtain ⟨bm, om, cm, hme, hT⟩ := Re.tb hA hMl (by omega) (fun r h => (hMw r h).1)
  rw [hMl] at hme
  cases hme
  have HML := Lib.hid hMl
  clear hMl hMw
  go_enter Try.func6, Try.ntmps6
  go_wp2_with fail
  refine hcon.mono ?_; rintro e w1 ⟨rfl, hb1⟩
  rw [← hW] at hb1
  clear hW hcon
  have hr := hr.below hb1; have d0 := kept hb1 d0; have d1 := kept hb1 d1; have hx := hx.below hb1; have hA := hA.below hb1; have hT := hT.below hb1
  have hbw := bwC hbW hb1
  go_wp2_with fail
  refine (hscon _ hx hA).mono ?_; rintro e w2 ⟨rfl, hb2⟩
  have hr := hr.below hb2; have d0 := kept hb2 d0; have d1 := kept hb2 d1; have hx := hx.below hb2; have hT := hT.below hb2
  have hbw := bwC hbw hb2
  clear hb1 hb2 hA hscon hbW
  go_wp2_with fail
  refine (hbas _ hx).mono ?_; rintro e w3 ⟨vk, rfl, hvk, hb3⟩
  have hr := hr.below hb3; have d0 := kept hb3 d0; have d1 := kept hb3 d1; have hx := hx.below hb3; have hT := hT.below hb3
  have hbw := bwC hbw hb3
  obtain ⟨ak, ck, rfl, hk1, hk2, hcell⟩ := id hvk
  clear hb3 hbas hvk
  have hmk : ∀ W : World, Sem.run Try.prog (Instr.makeSlice 22 (.int .i64 192) (.int .i64 192)) W = _ := fun W => run_make_row' (P := Try.prog) 22 2 (.int .i64 0) 8 Try.underlying22 infoI rfl .i64 .i64 192 (by omega) (by omega) W
  have hmn : FrI (w3.alloc (.cells (madeCells #[Value.int .i64 0] 192) 2)) w3.heap.size (.slice (some ⟨w3.heap.size, 0, none⟩) 192 192) (zeroL 192) := ⟨w3.heap.size, 192, by rw [zero_len], by rw [zero_len]; exact made_own (W := w3) (n := 192) (by omega)⟩
  have hbm : Below w3.heap.size w3 (w3.alloc (.cells (madeCells #[Value.int .i64 0] 192) 2)) := (by repeat (first | exact .refl _ _ | apply bwD | apply bwA | (refine bwS ?_ (by first | omega | simp <;> omega) _) | refine bwC ?_ (by assumption)))
  go_wp2_with fail
  clear hmk
  generalize w3.alloc (.cells (madeCells #[Value.int .i64 0] 192) 2) = w4 at *
  go_loopw [8, 9] (fun o i wr => ∃ (k : Nat), k ≤ K.length ∧ i = .int .i64 k ∧ FrI wr w3.heap.size o (sumK p f (K.take k)) ∧ (∃ a c, o = .slice a 192 c) ∧ Below w3.heap.size w3 wr) (fun _ i _ => K.length - (intOf i).toNat)
  case atStart => exact ⟨0, Nat.zero_le _, rfl, hmn, ⟨_, _, rfl⟩, hbm⟩
  case round =>
    clear hmn hbm
    obtain ⟨k, hk, rfl, ho, ⟨ao, co, rfl⟩, hbr⟩ := hrel
    by_cases hlt : k < K.length
    · obtain ⟨bk, ok, rfl, hcl⟩ := hcell.resolve_left (fun e => by rw [e] at hlt; simp at hlt)
      obtain ⟨u, hcu, hE⟩ := hcl k hlt
      obtain ⟨a2, c2, rfl, _⟩ := hE.op
      have hcu := kept hbr hcu; have hE := hE.below hbr; have d0 := kept hbr d0; have hT := hT.below hbr
      have er := hK.rw_ _ (List.getElem_mem hlt)
      have hl64 := HLE.out _ (List.getElem_mem hlt)
      have es := HSL.out k hk
      have hs1 := HSS.out k hlt
      obtain ⟨row, hrow⟩ : ∃ row, row = K[k] := ⟨_, rfl⟩
      rw [← hrow] at hcu hE er hl64 hs1
      obtain ⟨l, hl_⟩ : ∃ l, l = leadN row := ⟨_, rfl⟩
      rw [← hl_] at hl64 hs1
      have hfz := HFL.out l hl64
      have hzb := HFB.out l
      obtain ⟨b2, o2, c3, hcr, hcA⟩ := hT (l / 8) (by omega)
      have hc1 : wr.cell? ⟨b2, o2 + l % 8, none⟩ = some (.int .i64 ((M.getD (l / 8) []).getD (l % 8) 0)) := hcA (l % 8) (Nat.mod_lt _ (by decide))
      obtain ⟨z, hz_⟩ : ∃ z, z = f.getD l 0 := ⟨_, rfl⟩
      rw [← hfz, ← hz_] at hc1
      rw [← hz_] at hzb hs1
      obtain ⟨S, hS⟩ : ∃ S, S = sumK p f (K.take k) := ⟨_, rfl⟩
      rw [← hS] at ho es hs1
      have e2 : Ev p 192 (scaleL p row z) := scale_ev (by omega) er
      obtain ⟨Z, hZ⟩ : ∃ Z, Z = scaleL p row z := ⟨_, rfl⟩
      rw [← hZ] at hs1 e2
      have hlM : (l : Int) / 8 < (M.length : Int) := by rw [HML.out]; omega
      have hlM2 : l / 8 < M.length := by rw [HML.out]; omega
      have HS1 := Lib.hid hs1; have HZ := Lib.hid hZ; have HLL := Lib.hid hl_; have HRL := Lib.hid er.1; have HES := Lib.hid es; have HER := Lib.hid er; have HE2 := Lib.hid e2
      clear hs1 hZ hz_ hS hl_ hrow hfz hcA hT hcell hcl es er e2
      generalize wr = wo at *
      go_wp2_with fail
      refine (first_c hE.sl (by rw [HRL.out]; omega)).mono ?_; rintro e w5 ⟨rfl, rfl⟩
      rw [← HLL.out]
      go_wp2_with fail
      refine region_flow [(false, [(0, 0), (1, 1), (2, 0), (3, 0), (4, 1), (5, 0), (6, 0), (7, 0), (8, 0), (9, 1), (10, 0), (11, 0), (12, 0), (13, 1), (14, 0), (15, 0), (16, 0), (17, 1), (18, 5)]), (false, [(19, 4), (20, 0)])] (by kernel_rfl) ?_
      refine norm_K fun K hK => ?_
      change wpList _ _ _ [_, _, _, _, _, _, _, _, _, _, _, _, _, _, _, _, _, _, _] _ _
      have hb21 : Below wo.heap.size wo wo.drew := (by repeat (first | exact .refl _ _ | apply bwD | apply bwA | (refine bwS ?_ (by first | omega | simp <;> omega) _) | refine bwC ?_ (by assumption)))
      have d0 := kept hb21 d0; have hcu := kept hb21 hcu; have hE := hE.below hb21; have ho := ho.below hb21; have hcr := kept hb21 hcr; have hc1 := kept hb21 hc1
      generalize wo.drew = wq at *
      go_wp2_with fail
      refine (sscale_c (by omega) (by omega) (by omega) (by omega) hE.sl (HER.out.2.sm (by omega) (by omega)) (by rw [HRL.out]; omega)).mono ?_; rintro e w22 ⟨v1, rfl, hv1, hb22⟩
      have d0 := kept hb22 d0; have hcu := kept hb22 hcu; have hE := hE.below hb22; have ho := ho.below hb22; have hcr := kept hb22 hcr; have hc1 := kept hb22 hc1
      rw [← HZ.out] at hv1
      go_wp2_with fail
      have hz0 : Below wq.heap.size wq w22 := (by repeat (first | exact .refl _ _ | apply bwD | apply bwA | (refine bwS ?_ (by first | omega | simp <;> omega) _) | refine bwC ?_ (by assumption)))
      first | (refine hK _ _ ⟨hz0, ?_⟩; clear hK K) | refine ⟨hz0, ?_⟩
      clear hz0
      refine norm_K fun K hK => ?_
      change wpList _ _ _ [_, _] _ _
      go_wp2_with fail
      refine (sadd_c (by omega) (by omega) ho.sl hv1.sl (HES.out.2.sm (by omega) (by omega)) (HE2.out.2.sm (by omega) (by omega)) (by rw [HE2.out.1, HES.out.1]) (by rw [HES.out.1]; omega)).mono ?_; rintro e w23 ⟨v2, rfl, hv2, hb23⟩
      have d0 := kept hb23 d0; have hcu := kept hb23 hcu; have hE := hE.below hb23; have ho := ho.below hb23; have hcr := kept hb23 hcr; have hc1 := kept hb23 hc1; have hv1 := hv1.below hb23
      rw [← HS1.out] at hv2
      have HLZ := Lib.hid ((HSL.out (k + 1) (by omega)).1)
      obtain ⟨gz, cz, rfl, _⟩ := id hv2
      have hbz : Below wo.heap.size wo w23 := (by repeat (first | exact .refl _ _ | apply bwD | apply bwA | (refine bwS ?_ (by first | omega | simp <;> omega) _) | refine bwC ?_ (by assumption)))
      go_wp2_with fail
      first | (refine hK _ _ ⟨rfl, ?_⟩; clear hK K) | refine ⟨rfl, ?_⟩
      go_wp2_with fail
      go_roundw
      case rel => exact ⟨k + 1, by omega, by go_num, hv2.more (by have := hbr.size; have hb22_ : Below wo.heap.size wo w22 := bwC hb21 hb22; have := hb22_.size; omega), ⟨some ⟨gz, 0, none⟩, cz, by rw [HLZ.out]⟩, hbr.trans (hbz.mono hbr.size)⟩
      case measure => simp [intOf]; omega
    · obtain rfl : k = K.length := by omega
      have HLZ := Lib.hid ((HSL.out K.length (Nat.le_refl _)).1)
      rw [List.take_length] at ho HLZ
      have hx := hx.below hbr; have d0 := kept hbr d0; have d1 := kept hbr d1; have hr := hr.below hbr
      have hbw := bwC hbw hbr
      have hwz : w.heap.size + 2 ≤ wr.heap.size := by have := HWs.out; have := hbw.size; have := hr.lt; omega
      generalize wr = wo at *
      go_wp2_with fail
      refine (hcut _ _ _ hx ho.el HLZ.out).mono ?_; rintro e w9 ⟨va, vb, vc, lo, rfl, hlo, htr, hb9⟩
      obtain ⟨⟨g1, us1, P1, S1, cp1, rfl, _⟩, ⟨g2, us2, P2, S2, cp2, rfl, _⟩, ⟨g3, us3, P3, S3, cp3, rfl, _⟩⟩ := id htr
      have hr := hr.below hb9
      have rc0 := hr.c0; have rc1 := hr.c1; have rc2 := hr.c2; have rf0 := hr.f 0; have rf1 := hr.f 1; have rf2 := hr.f 2
      have hbz := bwC hbw hb9
      go_wp2_with fail
      refine bodyPost_ret (v := .tuple #[.agg #[.slice (some ⟨g1, P1.length, none⟩) (cut3 8 (sumK p f K)).A.length cp1, .slice (some ⟨g2, P2.length, none⟩) (cut3 8 (sumK p f K)).B.length cp2, .slice (some ⟨g3, P3.length, none⟩) (cut3 8 (sumK p f K)).C.length cp3], .int .i64 0]) (by simp [results, Try.results6, go_sem, rc0, rc1, rc2]) rfl ?_
      refine ⟨_, _, _, rfl, ?_, bwS (bwS (bwS hbz (by simp) _) (by simp) _) (by simp) _⟩
      refine (htr.keep (w' := ((w9.setCell ⟨w.heap.size + 1, 0, none⟩ _).setCell ⟨w.heap.size + 1, 1, none⟩ _).setCell ⟨w.heap.size + 1, 2, none⟩ _) (by simp) fun b h1 h2 => ?_).rs
      rw [Below.heap_setCell _ _ _ _ (by show b ≠ w.heap.size + 1; omega), Below.heap_setCell _ _ _ _ (by show b ≠ w.heap.size + 1; omega), Below.heap_setCell _ _ _ _ (by show b ≠ w.heap.size + 1; omega)]
end Go.Proofs.Ytfcdhdkhfdhjfaa
