/-
  CompleteTriple: the program's function, walked.
-/
import Derived.Test.YtfcdhdkhfdhjfaaCtK
import Derived.Test.YtfcdhdkhfdhjfaaCtJ
namespace Go.Proofs.Ytfcdhdkhfdhjfaa
open Go.RowKit

set_option maxHeartbeats 8000000 in
set_option maxRecDepth 100000 in
theorem iCompleteTriple_c {p : Int} {x m : Value} {st : List Int} {M : List (List Int)} {w : World} (hx : El w x st) (hm0 : st.length ≤ 1048576) (hA : Re w m M) (hz : Msz M) :
    Calls Try.prog 9 #[.agg #[.int .i64 p, x], m] w fun e w' => ∃ a b c, e = .returned (.tuple #[.agg #[a, b, c], .int .i64 (RCompleteTriple1 p st M)]) ∧ OutG w' w.heap.size a b c (RCompleteTriple0 p st M) ∧ Below w.heap.size w w' := by
  obtain ⟨a0, c0, rfl, _⟩ := id hx.op
  obtain ⟨a1, c1, rfl, _⟩ := id hA
  obtain ⟨W, hW⟩ : ∃ W, W = (((w.alloc (.cells #[.int .i64 p, .slice a0 st.length c0] 32)).alloc (.cells #[.slice none 0 0, .slice none 0 0, .slice none 0 0] 29)).alloc (.cells #[.slice a1 M.length c1] 25)) := ⟨_, rfl⟩
  have hbW : Below w.heap.size w W := by rw [hW]; exact (by repeat (first | exact .refl _ _ | apply bwD | apply bwA | (refine bwS ?_ (by first | omega | simp <;> omega) _) | refine bwC ?_ (by assumption)))
  have hx := hx.below hbW; have hA := hA.below hbW
  have d0 : W.cell? ⟨w.heap.size, 0, none⟩ = some (.int .i64 p) := by rw [hW]; simp [go_sem]
  have d1 : W.cell? ⟨w.heap.size, 1, none⟩ = some (.slice a0 st.length c0) := by rw [hW]; simp [go_sem]
  have hr : Bt W (w.heap.size + 1) (.slice none 0 0) (.slice none 0 0) (.slice none 0 0) := by
    rw [hW]
    refine Bt.below (w := (w.alloc (.cells #[.int .i64 p, .slice a0 st.length c0] 32)).alloc (.cells #[.slice none 0 0, .slice none 0 0, .slice none 0 0] 29)) ?_ (by repeat (first | exact .refl _ _ | apply bwD | apply bwA | (refine bwS ?_ (by first | omega | simp <;> omega) _) | refine bwC ?_ (by assumption)))
    unfold Bt
    rw [show w.heap.size + 1 = (w.alloc (.cells #[.int .i64 p, .slice a0 st.length c0] 32)).heap.size by simp]
    exact heap_alloc_new _ _
  have hml : W.cell? ⟨w.heap.size + 1 + 1, 0, none⟩ = some (.slice a1 M.length c1) := by rw [hW]; simp [go_sem]
  have hWs : W.heap.size = w.heap.size + 1 + 1 + 1 := by rw [hW]; simp
  have hMl_ : Ml W (.slice (some ⟨w.heap.size + 1 + 1, 0, none⟩) 1 1) [M] := by
    refine ⟨_, 1, rfl, fun j hj => ?_⟩
    obtain rfl : j = 0 := by simpa using hj
    exact ⟨_, hml, hA⟩
  have hcon := chkt_c (p := p) hx hMl_ hm0 (by simp) (fun X hX => by simp at hX; subst hX; exact hz)
  clear hMl_
  have HWs := Lib.hid hWs; clear hWs hml
  rw [hW] at hcon
  have ERR : ∀ (k : Int) (wz : World), Bt wz (w.heap.size + 1) (.slice none 0 0) (.slice none 0 0) (.slice none 0 0) → Below w.heap.size w wz → RCompleteTriple1 p st M = k → k ≠ 0 → ∃ a b c, Ending.returned (.tuple #[.agg #[.slice none 0 0, .slice none 0 0, .slice none 0 0], .int .i64 k]) = .returned (.tuple #[.agg #[a, b, c], .int .i64 (RCompleteTriple1 p st M)]) ∧ OutG (((wz.setCell ⟨w.heap.size + 1, 0, none⟩ (.slice none 0 0)).setCell ⟨w.heap.size + 1, 1, none⟩ (.slice none 0 0)).setCell ⟨w.heap.size + 1, 2, none⟩ (.slice none 0 0)) w.heap.size a b c (RCompleteTriple0 p st M) ∧ Below w.heap.size w (((wz.setCell ⟨w.heap.size + 1, 0, none⟩ (.slice none 0 0)).setCell ⟨w.heap.size + 1, 1, none⟩ (.slice none 0 0)).setCell ⟨w.heap.size + 1, 2, none⟩ (.slice none 0 0)) := by
    intro k wz _ hb e hk
    have e0 : RCompleteTriple0 p st M = ⟨[], [], []⟩ := if_neg (by rw [e]; exact hk)
    rw [e, e0]
    exact ⟨_, _, _, rfl, .inl ⟨rfl, rfl, rfl, rfl⟩, bwS (bwS (bwS hb (by simp) _) (by simp) _) (by simp) _⟩
  have HERR := Lib.hid ERR; clear ERR
  by_cases h0 : chkT p st [M] = 0
  case neg =>
    have e1 : RCompleteTriple1 p st M = chkT p st [M] := if_neg h0
    obtain ⟨k, hk⟩ : ∃ k, k = chkT p st [M] := ⟨_, rfl⟩
    rw [← hk] at h0 hcon e1
    have HE := Lib.hid e1
    clear hk e1
    have hne : (k == 0) = false := by simpa using h0
    go_enter Try.func9, Try.ntmps9
    go_wp2_with fail
    refine hcon.mono ?_; rintro e w1 ⟨rfl, hb1⟩
    rw [← hW] at hb1
    clear hW hcon
    have hr := hr.below hb1
    have rc0 := hr.c0; have rc1 := hr.c1; have rc2 := hr.c2; have rf0 := hr.f 0; have rf1 := hr.f 1; have rf2 := hr.f 2
    go_wp2_with fail
    refine bodyPost_ret (v := .tuple #[.agg #[.slice none 0 0, .slice none 0 0, .slice none 0 0], .int .i64 k]) (by simp [results, Try.results9, go_sem, rc0, rc1, rc2]) rfl ?_
    exact HERR.out k w1 hr (bwC hbW hb1) HE.out h0
  rw [h0] at hcon
  obtain ⟨hd, hMb⟩ := chkT_one h0
  have hp1 := hd.hp.lo; have hp2 := hd.hp.hi; have hl3 := hd.hl
  by_cases h3 : st.length = 3
  case neg =>
    have HE := Lib.hid (show RCompleteTriple1 p st M = 5 by unfold RCompleteTriple1; rw [if_pos h0, if_neg (fun h => h3 h.1)])
    have h3b : ((st.length : Int) == 3) = false := by simp; omega
    clear h0
    go_enter Try.func9, Try.ntmps9
    go_wp2_with fail
    refine hcon.mono ?_; rintro e w1 ⟨rfl, hb1⟩
    rw [← hW] at hb1
    clear hW hcon
    have hr := hr.below hb1; have d0 := kept hb1 d0; have d1 := kept hb1 d1
    have rc0 := hr.c0; have rc1 := hr.c1; have rc2 := hr.c2; have rf0 := hr.f 0; have rf1 := hr.f 1; have rf2 := hr.f 2
    go_wp2_with fail
    refine bodyPost_ret (v := .tuple #[.agg #[.slice none 0 0, .slice none 0 0, .slice none 0 0], .int .i64 5]) (by simp [results, Try.results9, go_sem, rc0, rc1, rc2]) rfl ?_
    exact HERR.out 5 w1 hr (bwC hbW hb1) HE.out (by decide)
  by_cases hsk : skewB p (diagF p st) M = true
  case neg =>
    have HE := Lib.hid (show RCompleteTriple1 p st M = 5 by unfold RCompleteTriple1; rw [if_pos h0, if_neg (fun h => hsk h.2)])
    have hskf : skewB p (diagF p st) M = false := by simpa using hsk
    have hscon := fun W' (h1 : El W' (.slice a0 st.length c0) st) (h2 : Re W' (.slice a1 M.length c1) M) => iskew_c (w := W') hd h1 h2 hMb
    simp only [skew_eq, hskf] at hscon
    have h3n : ((st.length : Int) != 3) = false := by rw [h3]; rfl
    have H3 := Lib.hid h3
    clear h0 h3
    go_enter Try.func9, Try.ntmps9
    go_wp2_with fail
    refine hcon.mono ?_; rintro e w1 ⟨rfl, hb1⟩
    rw [← hW] at hb1
    clear hW hcon
    have hr := hr.below hb1; have d0 := kept hb1 d0; have d1 := kept hb1 d1; have hx := hx.below hb1; have hA := hA.below hb1
    go_wp2_with fail
    refine (hscon _ hx hA).mono ?_; rintro e w2 ⟨rfl, hb2⟩
    have hr := hr.below hb2
    have rc0 := hr.c0; have rc1 := hr.c1; have rc2 := hr.c2; have rf0 := hr.f 0; have rf1 := hr.f 1; have rf2 := hr.f 2
    go_wp2_with fail
    refine bodyPost_ret (v := .tuple #[.agg #[.slice none 0 0, .slice none 0 0, .slice none 0 0], .int .i64 5]) (by simp [results, Try.results9, go_sem, rc0, rc1, rc2]) rfl ?_
    exact HERR.out 5 w2 hr (bwC hbW (bwC hb1 hb2)) HE.out (by decide)
  have e1 : RCompleteTriple1 p st M = 0 := by unfold RCompleteTriple1; rw [if_pos h0, if_pos ⟨h3, hsk⟩]
  have e0 : RCompleteTriple0 p st M = cut3 8 (sumK p M.flatten (locN p st)) := if_pos e1
  have hscon := fun W' (h1 : El W' (.slice a0 st.length c0) st) (h2 : Re W' (.slice a1 M.length c1) M) => iskew_c (w := W') hd h1 h2 hMb
  simp only [skew_eq, hsk] at hscon
  obtain ⟨hfe, hno, _, hox, hsum⟩ := compl_mat hd h3 hMb hsk
  have h8 := sz3 h3
  have hLrw : Rw p 192 (locP p st) := by have e := locP_rw hd; rw [h8] at e; exact e
  rw [← hsum] at e0
  have hloc : ∀ W', El W' (.slice a0 st.length c0) st → Calls Try.prog 31 #[.agg #[.int .i64 p, .slice a0 st.length c0]] W' fun e w' => ∃ v, e = .returned v ∧ ReF w' W'.heap.size v (locP p st) ∧ Below W'.heap.size W' w' := fun W' h1 => locrowsF_c hd h1
  rw [h8] at hMb
  obtain ⟨hMl, hMw⟩ := matB_iff.1 hMb
  have hLpos : 0 < (locP p st).length := by
    have : skewRow p (sz st.length) (dgN p st) 0 0 0 ∈ locP p st := loc_mem.2 (.inl ⟨0, 0, 0, by decide, by rw [h8]; decide, by decide, rfl⟩)
    exact List.length_pos_of_mem this
  have hLl : (locP p st).length ≤ 100000 := loc_len hd
  obtain ⟨L, hLe⟩ : ∃ L, L = locP p st := ⟨_, rfl⟩
  obtain ⟨f, hf⟩ : ∃ f, f = M.flatten := ⟨_, rfl⟩
  simp only [← hLe, ← hf] at hloc hno hox hsum e0 hLrw hLpos hLl hfe
  obtain ⟨o, ho_⟩ : ∃ o, o = setL 128 (basisL p 129 (wideL p f L)) := ⟨_, rfl⟩
  rw [← ho_] at hox e0
  rw [e0, e1]
  have HF := Lib.hid hf; have HO := Lib.hid ho_; have HOX := Lib.hid hox.1
  clear ho_ hox
  clear hLe hf hsk e0 e1 h0 HERR hsum
  have hne : ∀ xs ∈ M, 0 < xs.length := fun r hr => by rw [(hMw r hr).1]; decide
  have h3n : ((st.length : Int) != 3) = false := by rw [h3]; rfl
  have H8 := Lib.hid (show ((sz st.length : Nat) : Int) = 8 by rw [h8]; rfl)
  have HML := Lib.hid hMl; have HNE := Lib.hid hne; have HLW := Lib.hid hLrw; have HNO := Lib.hid hno; have HFE := Lib.hid hfe
  have h64 : M.flatten.length ≤ 1000 := by rw [← HF.out, hfe.1]; decide
  clear h3 h8 hMl hMw hne hLrw hno hfe
  go_enter Try.func9, Try.ntmps9
  go_wp2_with fail
  refine hcon.mono ?_; rintro e w1 ⟨rfl, hb1⟩
  rw [← hW] at hb1
  clear hW hcon
  have hr := hr.below hb1; have d0 := kept hb1 d0; have d1 := kept hb1 d1; have hx := hx.below hb1; have hA := hA.below hb1
  have hb1 := bwC hbW hb1
  go_wp2_with fail
  refine (hscon _ hx hA).mono ?_; rintro e w2 ⟨rfl, hb2⟩
  have hr := hr.below hb2; have d0 := kept hb2 d0; have d1 := kept hb2 d1; have hx := hx.below hb2; have hA := hA.below hb2
  have hb1 := bwC hb1 hb2
  clear hscon hb2 hbW
  go_wp2_with fail
  go_wp2_with fail
  refine region_flow [(false, [(0, 1), (2, 1), (1, 5)]), (false, [(3, 4), (4, 0), (5, 0)])] (by kernel_rfl) ?_
  refine norm_K fun K hK => ?_
  change wpList _ _ _ [_, _, _] _ _
  have hb23 : Below w2.heap.size w2 w2.drew := (by repeat (first | exact .refl _ _ | apply bwD | apply bwA | (refine bwS ?_ (by first | omega | simp <;> omega) _) | refine bwC ?_ (by assumption)))
  have hr := hr.below hb23; have d0 := kept hb23 d0; have d1 := kept hb23 d1; have hx := hx.below hb23; have hA := hA.below hb23
  generalize w2.drew = wq at *
  go_wp2_with fail
  refine (size_c (by omega)).mono ?_; rintro e w24 ⟨rfl, hb24⟩
  have hr := hr.below hb24; have d0 := kept hb24 d0; have d1 := kept hb24 d1; have hx := hx.below hb24; have hA := hA.below hb24
  rw [H8.out]
  go_wp2_with fail
  have hz0 : Below wq.heap.size wq w24 := (by repeat (first | exact .refl _ _ | apply bwD | apply bwA | (refine bwS ?_ (by first | omega | simp <;> omega) _) | refine bwC ?_ (by assumption)))
  first | (refine hK _ _ ⟨hz0, ?_⟩; clear hK K) | refine ⟨hz0, ?_⟩
  clear hz0
  refine norm_K fun K hK => ?_
  change wpList _ _ _ [_, _, _] _ _
  go_wp2_with fail
  refine (dfield_c).mono ?_; rintro e w25 ⟨rfl, hb25⟩
  have hr := hr.below hb25; have d0 := kept hb25 d0; have d1 := kept hb25 d1; have hx := hx.below hb25; have hA := hA.below hb25
  go_wp2_with fail
  first | (refine hK _ _ ⟨rfl, ?_⟩; clear hK K) | refine ⟨rfl, ?_⟩
  go_wp2_with fail
  have hb4 : Below w.heap.size w w25 := bwC hb1 (show Below w2.heap.size w2 w25 from (by repeat (first | exact .refl _ _ | apply bwD | apply bwA | (refine bwS ?_ (by first | omega | simp <;> omega) _) | refine bwC ?_ (by assumption))))
  have HB4 := Lib.hid hr.lt
  refine (concat_c hA HNE.out (by have := HML.out; omega) h64 (by have := HML.out; omega)).mono ?_; rintro e w5 ⟨vf, rfl, hvf, hb5⟩
  rw [← HF.out] at hvf
  have hr := hr.below hb5; have d0 := kept hb5 d0; have d1 := kept hb5 d1; have hx := hx.below hb5
  have hb5 := bwC hb4 hb5
  have hb6 : Below w5.heap.size w5 ((w5.alloc (.cells #[] 22)).alloc (.cells #[] 2)) := (by repeat (first | exact .refl _ _ | apply bwD | apply bwA | (refine bwS ?_ (by first | omega | simp <;> omega) _) | refine bwC ?_ (by assumption)))
  have hv6 : OwV ((w5.alloc (.cells #[] 22)).alloc (.cells #[] 2)) w5.heap.size (.slice (some ⟨w5.heap.size, 0, none⟩) 0 0) [] := (OwV.new (Nat.le_refl _)).below (by repeat (first | exact .refl _ _ | apply bwD | apply bwA | (refine bwS ?_ (by first | omega | simp <;> omega) _) | refine bwC ?_ (by assumption)))
  have hn6 : OwN ((w5.alloc (.cells #[] 22)).alloc (.cells #[] 2)) w5.heap.size (.slice (some ⟨w5.heap.size + 1, 0, none⟩) 0 0) [] := by
    rw [show w5.heap.size + 1 = (w5.alloc (.cells #[] 22)).heap.size by simp]
    exact World.ownsRow_made _ _ _ (by simp) (by decide) rfl
  have hs6 : ((w5.alloc (.cells #[] 22)).alloc (.cells #[] 2)).heap.size = w5.heap.size + 2 := by simp
  have d0 := kept hb6 d0; have d1 := kept hb6 d1; have hx := hx.below hb6
  go_wp2_with fail
  generalize (w5.alloc (.cells #[] 22)).alloc (.cells #[] 2) = w6 at *
  refine (hloc _ hx).mono ?_; rintro e w7 ⟨vl, rfl, hvl, hb7⟩
  have hv6 := hv6.below hb7; have hn6 := hn6.below hb7
  have hb6 := bwC hb6 hb7
  have hs7 := hb7.size
  obtain ⟨al, cl, rfl, hl1, hl2, hR7⟩ := hvl
  obtain ⟨gl, rfl, hgl, hcell⟩ := hR7.resolve_left (fun e => by rw [e] at hLpos; simp at hLpos)
  have hct : Cts p f L w7 w7 w5.heap.size w6.heap.size w7.heap.size 0 (.slice (some ⟨w5.heap.size, 0, none⟩) 0 0) (.slice (some ⟨w5.heap.size + 1, 0, none⟩) 0 0) [] [] := by
    refine ⟨hv6, rfl, fun j hj => by simp at hj, ⟨_, _, rfl⟩, hn6, by simp, ⟨_, _, rfl⟩, fun _ _ _ => rfl, fun g e => ?_, fun g e => ?_, Nat.le_refl _⟩
    · obtain rfl : w5.heap.size = g := by simpa [Value.ownBlock] using e
      omega
    · obtain rfl : w5.heap.size + 1 = g := by simpa [Value.ownBlock] using e
      omega
  have HCELL := Lib.hid hcell
  have HB6 := Lib.hid hb6; have HB7 := Lib.hid (And.intro hb5 hb7)
  clear hb7 hb5 hb1 hb4 hcell hR7 hloc d0 d1 hx hA hv6 hn6
  go_wp2_with fail
  go_loopw [10, 11, 46] (fun rv cv i wr => ∃ (k : Nat) (us : List Value) (cs : List Int), k ≤ L.length ∧ i = .int .i64 k ∧ Cts p f L w7 wr w5.heap.size w6.heap.size w7.heap.size k rv cv us cs ∧ Below w5.heap.size w5 wr) (fun _ _ i _ => L.length - (intOf i).toNat)
  case atStart => exact ⟨0, [], [], Nat.zero_le _, rfl, hct, hb6⟩
  case round =>
    clear hct hb6
    obtain ⟨k, us, cs, hk, rfl, hct, hbr⟩ := hrel
    obtain ⟨ar, cr, rfl⟩ := hct.rf; obtain ⟨ac, cc, rfl⟩ := hct.cf
    by_cases hlt : k < L.length
    · obtain ⟨u, hcu, g, cap, rfl, hE⟩ := HCELL.out k hlt
      have hrl : L[k].length = 192 := (HLW.out _ (List.getElem_mem hlt)).1
      have hfp := (HLW.out _ (List.getElem_mem hlt)).2
      have hgd : L.getD k [] = L[k] := by rw [List.getD_eq_getElem?_getD, List.getElem?_eq_getElem hlt]; rfl
      have hgE := hE.lt
      have hcp := hE.caps
      have hat := hE.at
      have hcu : wr.cell? ⟨gl, k, none⟩ = some (.slice (some ⟨g, 0, none⟩) L[k].length cap) := by rw [World.cell?_of_block (w := w7) (hct.kb gl hgl.1 hgl.2)]; exact hcu
      have hz : ∃ b cap2, Value.slice (some ⟨g, 64, none⟩) 128 (cap - 64) = .slice (some ⟨b, 64, none⟩) 128 (cap2 - 64) ∧ w6.heap.size ≤ b ∧ b < w7.heap.size ∧ 192 ≤ cap2 ∧ cap2 ≤ 9223372036854775807 ∧ At w7 b 0 (L.getD k []) := ⟨g, cap, rfl, hgE.1, hgE.2, by omega, hcp.2, by rw [hgd]; exact hat⟩
      have hrc : Rhs p f L[k] (dotL p (L[k].take 64) f) := ⟨rfl, Int.emod_nonneg _ (by omega), Int.emod_lt_of_pos _ (by omega)⟩
      have hus := hct.rl; have hcsl : cs.length = k := by rw [hct.cs_, List.length_map, List.length_take]; omega
      have t1 : Sm 1000 (L[k].take 64) := Fp.sm (fun y hy => hfp y (List.mem_of_mem_take hy)) (by omega) (by omega)
      have t2 : Sm 1000 f := Fp.sm HFE.out.2 (by omega) (by omega)
      have hdc := fun W (h1 : Sl W (.slice (some ⟨g, 0, none⟩) 64 cap) (L[k].take 64)) (h2 : Sl W vf f) => dot_c (w := W) (p := p) (by omega) (by omega) h1 h2 t1 t2 (by rw [List.length_take, hrl, HFE.out.1]; rfl) (by rw [List.length_take]; omega)
      obtain ⟨d, hd_⟩ : ∃ d, d = dotL p (L[k].take 64) f := ⟨_, rfl⟩
      rw [← hd_] at hrc; simp only [← hd_] at hdc
      have hd1 := hrc.2.1; have hd2 := hrc.2.2
      have hnc := fun W => num_c (w := W) (p := p) (n := -d) (by omega) (by omega)
      have hy : (-d) % p = rhs p f L[k] := by rw [hrc.1]; rfl
      obtain ⟨y, hy_⟩ : ∃ y, y = (-d) % p := ⟨_, rfl⟩
      rw [← hy_] at hy; simp only [← hy_] at hnc
      rw [hrl] at hcu
      have hc64 : 64 < cap := by omega
      have HY := Lib.hid hy; have HR := Lib.hid hrc; have HZ := Lib.hid hz; have HUS := Lib.hid hus; have HCS := Lib.hid hcsl
      obtain ⟨row, hrow⟩ : ∃ row, row = L[k] := ⟨_, rfl⟩
      simp only [← hrow] at hdc hat hrl
      have HG := Lib.hid hgE
      have HRL := Lib.hid hrl
      clear hrow hy hrc hz hd_ hy_ t1 t2 hgd hrl hfp hE hcp hus hcsl hgE hs6 hs7 h64
      go_wp2_with (at_builtin; refine appr_one rfl _ _ rfl wr w5.heap.size _ rfl (.slice ar us.length cr) us rfl (.slice (some ⟨g, 64, none⟩) 128 (cap - 64)) 1 rfl rfl hct.rows hbr.size (by have := HUS.out; omega) ?_; intro g2 cap2 w8 ho2 hb2 hg2 hge2)
      have hk8 : w8.heap[g]? = w7.heap[g]? := by
        have := HG.out; have := hct.sz
        rw [hg2.block g (by omega) (fun e => by have := hct.ro g e.symm; omega), hct.kb g HG.out.1 HG.out.2]
      have hsl1 : Sl w8 (.slice (some ⟨g, 0, none⟩) 64 cap) (row.take 64) := ⟨_, cap, by rw [List.length_take, HRL.out]; rfl, .inr ⟨g, 0, rfl, fun i hi => by
        rw [List.length_take] at hi
        rw [World.cell?_of_block (w := w7) hk8, hat i (by omega), List.getD_eq_getElem?_getD, List.getD_eq_getElem?_getD, List.getElem?_take_of_lt (by omega)]⟩⟩
      have hsf := (hvf.below (hbr.trans hb2)).sl
      have hn8 : OwN w8 w5.heap.size (.slice ac cs.length cc) cs := hct.right.kept hg2 (apart hct.right hct.rows)
      have hs8 : w5.heap.size ≤ w8.heap.size := Nat.le_trans hbr.size hb2.size
      refine (hdc _ hsl1 hsf).mono ?_; rintro e w9 ⟨rfl, rfl⟩
      clear hdc hk8
      go_wp2_with fail
      refine (hnc _).mono ?_; rintro e w9 ⟨rfl, rfl⟩
      go_wp2_with (at_builtin; refine appn_one rfl _ _ rfl w8 w5.heap.size _ rfl (.slice ac cs.length cc) cs rfl y 1 rfl hn8 hs8 (by have := HCS.out; omega) ?_; intro g4 cap4 w9 ho4 hb4 hg4 hge4)
      go_roundw
      case rel => exact ⟨k + 1, us ++ [_], cs ++ [y], by omega, by go_num, hct.step HZ.out ho2 hg2 hge2 ho4 hg4 hge4 hlt HY.out, hbr.trans (hb2.trans hb4)⟩
      case measure => simp [intOf]; omega
    · obtain rfl : k = L.length := by omega
      have hre : Re wr (.slice ar us.length cr) (L.map fun r => r.drop 64) := hct.re rfl fun r h => (HLW.out r h).1
      have hcs : cs = L.map (rhs p f) := by rw [hct.cs_, List.take_length]
      have hsl : Sl wr (.slice ac cs.length cc) (L.map (rhs p f)) := by
        have h := hct.right
        have h : OwN wr w5.heap.size (.slice ac cs.length cc) (L.map (rhs p f)) := by rw [← hcs]; exact h
        exact (h.fr (by rw [List.length_map]; exact hLpos)).sl
      have hr := hr.below hbr
      have hvf := hvf.below hbr
      have hsv := fun W (h1 : Re W (.slice ar us.length cr) (L.map fun r => r.drop 64)) (h2 : Sl W (.slice ac cs.length cc) (L.map (rhs p f))) => solve_c (w := W) hd.hp (drop_rw HLW.out) h1 h2 (rhs_fp (by omega)) (by rw [List.length_map, List.length_map]) (by rw [List.length_map]; exact hLpos) (by decide) (by decide) (by rw [List.length_map]; exact hLl) (by rw [zw_wide]; exact HNO.out)
      simp only [zw_wide] at hsv
      have hol : o.length = 128 := HOX.out
      simp only [show (128 : Nat) + 1 = 129 from rfl, ← HO.out] at hsv
      clear HNO hct hcs
      go_wp2_with fail
      refine (hsv _ hre hsl).mono ?_; rintro e w8 ⟨vs, rfl, hvs, hb8⟩
      have hr := hr.below hb8; have hvf := hvf.below hb8
      have hb8 := hbr.trans (hb8.mono hbr.size)
      obtain ⟨gf, cf, rfl, hof⟩ := hvf; obtain ⟨gs, cs2, rfl, hos⟩ := hvs
      have hfl : f.length = 64 := HFE.out.1
      have hfl2 : (f ++ o).length = 192 := by rw [List.length_append, hfl, hol]
      have hat2 := hos.at
      rw [hol] at hos ⊢
      rw [hfl] at hof ⊢
      have HFL2 := Lib.hid hfl2
      have HGF := Lib.hid hof.lt
      have hof : OwnI w8 0 gf 64 cf f := by
        have h := (hof.fr.more (Nat.zero_le _))
        obtain ⟨g', c', e, h⟩ := h
        rw [hfl] at e h
        cases e; exact h
      have HOL := Lib.hid hol
      have hbz := HB7.out.1
      clear hfl hol hfl2 hos hre hsl hsv hs6 hs7 h64
      go_wp2_with (at_builtin; refine app_int rfl _ _ rfl w8 0 gf 64 cf f rfl gs 0 128 cs2 o rfl hof (Nat.zero_le _) hat2 HOL.out (by decide) (by decide) ?_; intro g9 cap9 w9 h91 h92 h93)
      have hg1 := HGF.out; have hg2 := HB4.out
      have hb9 : Below w.heap.size w w9 := blw_grown (hbz.trans (hb8.mono hbz.size)) h92 (by omega)
      have hr : Bt w9 (w.heap.size + 1) (.slice none 0 0) (.slice none 0 0) (.slice none 0 0) := by
        have hl := hr.lt
        unfold Bt at hr ⊢
        rw [h92.block _ hl (fun e => by have e := Option.some.inj e; omega)]; exact hr
      have hl9 := hr.lt
      have hE9 : El w9 (.slice (some ⟨g9, 0, none⟩) 192 cap9) (f ++ o) := h91.el
      clear hg1 hg2 h91 h92 h93 hat2 hof hb8 hbz
      refine (tripleof_c (n := 8) hE9 (by decide) (by decide) HFL2.out).mono ?_; rintro e w10 ⟨ta, tb, tc, lo, rfl, hlo, hT, hb10⟩
      have hr := hr.below hb10
      have hbT := bwC hb9 hb10
      have hlo2 := Nat.le_trans hb9.size hlo; have HLO := Lib.hid (Nat.lt_of_lt_of_le hl9 hlo)
      have hlt := hr.lt
      clear hE9 hb10 hb9
      have rc0 := hr.c0; have rc1 := hr.c1; have rc2 := hr.c2; have rf0 := hr.f 0; have rf1 := hr.f 1; have rf2 := hr.f 2
      obtain ⟨n1, hn1⟩ : ∃ n, n = (cut3 8 (f ++ o)).A.length := ⟨_, rfl⟩
      obtain ⟨n2, hn2⟩ : ∃ n, n = (cut3 8 (f ++ o)).B.length := ⟨_, rfl⟩
      obtain ⟨n3, hn3⟩ : ∃ n, n = (cut3 8 (f ++ o)).C.length := ⟨_, rfl⟩
      obtain ⟨n4, hn4⟩ : ∃ n, n = ((cut3 8 (f ++ o)).A ++ (cut3 8 (f ++ o)).B).length := ⟨_, rfl⟩
      obtain ⟨tg, tus, t1, t2, t3, e1, e2, e3, _⟩ := id hT
      rw [← hn1] at e1; rw [← hn1, ← hn2] at e2; rw [← hn4, ← hn3] at e3
      subst e1 e2 e3
      clear hn1 hn2 hn3 hn4
      go_wp2_with fail
      refine bodyPost_ret (v := .tuple #[.agg #[.slice (some ⟨tg, 0, none⟩) n1 t1, .slice (some ⟨tg, n1, none⟩) n2 t2, .slice (some ⟨tg, n4, none⟩) n3 t3], .int .i64 0]) (by simp [results, Try.results9, go_sem, rc0, rc1, rc2]) rfl ?_
      refine ⟨_, _, _, rfl, .inr ⟨lo, w10.heap.size, hlo2, hT.keep (by simp) fun k h1 h2 => ?_⟩, ((hbT.setCell (p := ⟨w.heap.size + 1, 0, none⟩) (Nat.le_succ _) _).setCell (p := ⟨w.heap.size + 1, 1, none⟩) (Nat.le_succ _) _).setCell (p := ⟨w.heap.size + 1, 2, none⟩) (Nat.le_succ _) _⟩
      have hlo3 := HLO.out
      rw [Below.heap_setCell _ _ _ _ (by show k ≠ w.heap.size + 1; omega), Below.heap_setCell _ _ _ _ (by show k ≠ w.heap.size + 1; omega), Below.heap_setCell _ _ _ _ (by show k ≠ w.heap.size + 1; omega)]
end Go.Proofs.Ytfcdhdkhfdhjfaa
