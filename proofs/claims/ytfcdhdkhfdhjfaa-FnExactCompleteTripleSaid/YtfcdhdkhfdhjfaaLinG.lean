/-
  Reduced rows by the program: the walk.
-/
import Derived.Test.YtfcdhdkhfdhjfaaLinF
namespace Go.Proofs.Ytfcdhdkhfdhjfaa
open Go.RowKit

theorem swap_get {A B : List (List Int)} {f : Nat} (h : f < B.length) : (((A ++ B).set A.length (B.getD f [])).set (A.length + f) (B.getD 0 [])).getD A.length [] = B.getD f [] := by
  match B with
  | b :: bs =>
    rw [List.set_append_right _ _ (Nat.le_refl _), Nat.sub_self, List.set_append_right _ _ (by omega), Nat.add_sub_cancel_left]
    have := app_get (A := A) (B := ((b :: bs).set 0 ((b :: bs).getD f [])).set f ((b :: bs).getD 0 [])) (j := 0)
    rw [Nat.add_zero] at this
    rw [this]
    match f with
    | 0 => simp
    | j + 1 => simp
def ReF (w : World) (B : Nat) (v : Value) (xss : List (List Int)) : Prop :=
  ∃ a c, v = .slice a xss.length c ∧ xss.length ≤ c ∧ c ≤ 9223372036854775807 ∧ (xss = [] ∨ ∃ g, a = some ⟨g, 0, none⟩ ∧ (B ≤ g ∧ g < w.heap.size) ∧ ∀ j (h : j < xss.length), ∃ u, w.cell? ⟨g, j, none⟩ = some u ∧ FrI w B u xss[j])
theorem ReF.re {w : World} {B : Nat} {v : Value} {xss : List (List Int)} (h : ReF w B v xss) : Re w v xss := by
  obtain ⟨a, c, rfl, h1, h2, h⟩ := h
  refine ⟨a, c, rfl, h1, h2, ?_⟩
  rcases h with h | ⟨g, rfl, hB, h⟩
  · exact .inl h
  · exact .inr ⟨g, 0, rfl, fun j hj => by
      obtain ⟨u, hu, hf⟩ := h j hj
      exact ⟨u, by rw [Nat.zero_add]; exact hu, hf.el⟩⟩
theorem ReF.more {w : World} {B B' : Nat} {v : Value} {xss : List (List Int)} (h : ReF w B v xss) (hB : B' ≤ B) : ReF w B' v xss := by
  obtain ⟨a, c, e, h1, h2, h⟩ := h
  refine ⟨a, c, e, h1, h2, ?_⟩
  rcases h with h | ⟨g, e2, hg, h⟩
  · exact .inl h
  · exact .inr ⟨g, e2, ⟨Nat.le_trans hB hg.1, hg.2⟩, fun j hj => by
      obtain ⟨u, hu, hf⟩ := h j hj
      exact ⟨u, hu, hf.more hB⟩⟩
theorem RowsF.part {w : World} {B g n cap : Nat} {us : List Value} {A C : List (List Int)} (hr : RowsF w B us (A ++ C)) (ho : OwV w B (.slice (some ⟨g, 0, none⟩) n cap) us) : ReF w B (.slice (some ⟨g, 0, none⟩) A.length cap) A := by
  obtain ⟨cur, hh, _, _, hl, hn, hm, hB⟩ := ho.row
  have h1 := hr.1
  rw [List.length_append] at h1
  simp only [maxLen] at hm
  refine ⟨_, cap, rfl, by omega, by omega, .inr ⟨g, rfl, ⟨hB, (Array.getElem?_eq_some_iff.1 hh).1⟩, fun j hj => ⟨us[j]'(by omega), ho.cell (by omega), ?_⟩⟩⟩
  have := hr.2 j (by omega) (by rw [List.length_append]; omega)
  rw [List.getElem_append_left hj] at this
  exact this
theorem rw_set {p : Int} {m i : Nat} {X : List (List Int)} {r : List Int} (h : Rw p m X) (hr : Ev p m r) : Rw p m (X.set i r) := fun x hx => by
  rcases List.mem_or_eq_of_mem_set hx with h1 | h1
  · exact h x h1
  · rw [h1]; exact hr
set_option maxHeartbeats 8000000 in
set_option maxRecDepth 100000 in
theorem basisF_c {p : Int} {rows : Value} {m : Nat} {L : List (List Int)} {w : World} (hp : IsP p) (hL : Rw p m L) (hr : Re w rows L) (hm1 : 1 ≤ m) (hm2 : m ≤ 1000) (hn : L.length ≤ 100000) :
    Calls Try.prog 57 #[.int .i64 p, rows] w fun e w' => ∃ v, e = .returned v ∧ ReF w' w.heap.size v (basisL p m L) ∧ Below w.heap.size w w' := by
  have hp1 := hp.lo
  have hp2 := hp.hi
  obtain ⟨ar, cr, rfl, _⟩ := id hr
  go_enter Try.func57, Try.ntmps57
  go_wp2_with fail
  refine (clonerows_c hr (fun r h => by have := (hL r h).1; omega) (by omega)).mono ?_; rintro e w1 ⟨g, cap, us0, rfl, hown0, hrow0, hb1⟩
  obtain ⟨_, _, _, _, _, hcn, hcm, hgB⟩ := hown0.row
  simp only [maxLen] at hcm
  by_cases h0 : L.length = 0
  · have e0 : L = [] := List.eq_nil_of_length_eq_zero h0
    subst e0
    have hbas : basisL p m [] = [] := by
      unfold basisL
      have := colsB_stay (p := p) (s := ([], [])) (k := 0) rfl m
      rw [Nat.zero_add] at this
      rw [this]; rfl
    have HB := Lib.hid hbas; clear hbas h0
    go_wp2_with fail
    refine wp_loop_rounds 1 ?_; rw [rounds_succ]
    go_wp2_with fail
    go_ret
    exact ⟨_, rfl, by rw [HB.out]; exact ⟨_, cap, rfl, by omega, by omega, .inl rfl⟩, hb1⟩
  have hpos : 0 < L.length := by omega
  clear h0
  go_wp2_with fail
  go_loopw [6, 7] (fun d i wr => ∃ (k : Nat) (us : List Value), k ≤ m ∧ i = .int .i64 k ∧ d = .int .i64 (((colsB p k ([], L)).1.length : Nat) : Int) ∧ OwV wr w.heap.size (.slice (some ⟨g, 0, none⟩) L.length cap) us ∧ RowsF wr w.heap.size us ((colsB p k ([], L)).1 ++ (colsB p k ([], L)).2) ∧ Below w.heap.size w wr)
    (fun _ i _ => m - (intOf i).toNat)
  case atStart => exact ⟨0, us0, Nat.zero_le _, rfl, rfl, hown0, hrow0, hb1⟩
  case round =>
    obtain ⟨k, us, hk, rfl, hd0, hown, hrow, hbr⟩ := hrel
    have hlen := colsB_len (p := p) (L := L) k
    have hrw := colsB_rw hp hL hk
    have hstep : colsB p (k + 1) ([], L) = stepB p k (colsB p k ([], L)) := rfl
    have hbas : k = m → basisL p m L = (colsB p k ([], L)).1 := fun e => by rw [e]; rfl
    have hbas2 : (colsB p k ([], L)).2 = [] → basisL p m L = (colsB p k ([], L)).1 := fun e => by
      have := colsB_stay e (m - k)
      rw [show k + (m - k) = m by omega] at this
      unfold basisL
      rw [this]
    obtain ⟨A, B, hAB⟩ : ∃ A B, colsB p k ([], L) = (A, B) := ⟨_, _, rfl⟩
    rw [hAB] at hlen hrw hstep hbas hbas2 hrow hd0
    simp only at hlen hrw hbas hbas2 hrow hd0
    subst hd0
    obtain ⟨g0, c0, _, hc0, hf0, _⟩ := row_at hown hrow hrw (j := 0) (by rw [List.length_append]; omega)
    have HAB := Lib.hid hAB; have HS := Lib.hid hstep; have HB1 := Lib.hid hbas; have HB2 := Lib.hid hbas2; have HLEN := Lib.hid hlen; have HRW := Lib.hid hrw
    have hAl : A.length ≤ L.length := by omega
    clear hAB hstep hbas hbas2 hlen hrw
    by_cases hkm : k < m
    case neg =>
      obtain rfl : k = m := by omega
      have HX := Lib.hid (HB1.out rfl)
      go_wp2_with fail
      go_ret
      exact ⟨_, rfl, by rw [HX.out]; exact hrow.part hown, hbr⟩
    by_cases hd : A.length < L.length
    case neg =>
      have hB : B = [] := List.eq_nil_of_length_eq_zero (by have := HLEN.out; omega)
      have HX := Lib.hid (HB2.out hB); clear hB
      go_wp2_with fail
      go_ret
      exact ⟨_, rfl, by rw [HX.out]; exact hrow.part hown, hbr⟩
    go_wp2_with fail
    by_cases hf : fndR k B = B.length
    · have hst : colsB p (k + 1) ([], L) = (A, B) := by rw [HS.out]; unfold stepB; rw [if_pos hf]
      have HST := Lib.hid hst; have HF := Lib.hid hf; clear hst hf
      go_loop [8] (fun i => ∃ j : Nat, A.length ≤ j ∧ j ≤ L.length ∧ i = .int .i64 j) (fun i => L.length - (intOf i).toNat)
      case atStart => exact ⟨A.length, Nat.le_refl _, hAl, rfl⟩
      case round =>
        obtain ⟨j, hj1, hj2, rfl⟩ := hrel
        by_cases hj : j < L.length
        · obtain ⟨gj, cj, _, hcj, hfj, hej⟩ := row_at hown hrow HRW.out (j := j) (by have := HLEN.out; rw [List.length_append]; omega)
          have hz : ((A ++ B).getD j []).getD k 0 = 0 := by
            obtain ⟨t, rfl⟩ := Nat.exists_eq_add_of_le hj1
            rw [app_get]
            exact fnd_none HF.out _ (get_mem (by have := HLEN.out; omega))
          have hek := hej k hkm
          rw [hz] at hek
          clear hz hej hfj
          go_wp2_with fail
          go_round
          case rel => exact ⟨j + 1, by omega, by omega, by go_num⟩
          case measure => simp [intOf]; omega
        · obtain rfl : j = L.length := by omega
          go_wp2_with fail
          go_roundw
          case rel => exact ⟨k + 1, us, by omega, by go_num, by rw [HST.out], hown, by rw [HST.out]; exact hrow, hbr⟩
          case measure => simp [intOf]; omega
    · have hflt : fndR k B < B.length := Nat.lt_of_le_of_ne fnd_le hf
      have hst : colsB p (k + 1) ([], L) = (A.map (red p k (wB p k B)) ++ [wB p k B], (othR (fndR k B) B).map (red p k (wB p k B))) := by rw [HS.out]; unfold stepB; rw [if_neg hf]
      have hfl := fun j h => fnd_low (k := k) (B := B) (j := j) h
      have hfg := fnd_get hflt
      have hwB : wB p k B = normW p k (B.getD (fndR k B) []) := rfl
      obtain ⟨f, hf_⟩ : ∃ f, f = fndR k B := ⟨_, rfl⟩
      obtain ⟨W, hW_⟩ : ∃ W, W = wB p k B := ⟨_, rfl⟩
      rw [← hf_] at hst hflt hfl hfg hwB
      rw [← hW_] at hst hwB
      have ew0 := HRW.out (B.getD f []) (List.mem_append_right _ (get_mem hflt))
      have eW : Ev p m W := by rw [hwB]; exact normW_ev (by omega) ew0
      have hq0 := ew0.at (p := p) (by omega) k
      have hsw := swap_set (A := A) (w := W) hflt
      have hsg := swap_get (A := A) hflt
      have hx0 : (A ++ B).getD A.length [] = B.getD 0 [] := by have := app_get (A := A) (B := B) (j := 0); rwa [Nat.add_zero] at this
      have hxf : (A ++ B).getD (A.length + f) [] = B.getD f [] := app_get
      have hfull := elimT_full (p := p) (k := k) (w := W) (A := A) (B := othR f B)
      have hfn : A.length + f < L.length := by have := HLEN.out; omega
      obtain ⟨X3, hX3⟩ : ∃ X3, X3 = A ++ W :: othR f B := ⟨_, rfl⟩
      rw [← hX3] at hsw hfull
      have hX3l : X3.length = L.length := by have := HLEN.out; rw [hX3, List.length_append, List.length_cons, oth_len hflt]; omega
      have hX3w : Rw p m X3 := by
        rw [hX3]
        exact Rw.app (fun r h => HRW.out r (List.mem_append_left _ h)) (Rw.mk_ eW fun r h => HRW.out r (List.mem_append_right _ (oth_mem hflt h)))
      have hX3d : X3.getD A.length [] = W := by
        have := app_get (A := A) (B := W :: othR f B) (j := 0)
        rw [Nat.add_zero] at this
        rw [hX3, this]; rfl
      obtain ⟨R, hR_⟩ : ∃ R, R = B.getD f [] := ⟨_, rfl⟩
      rw [← hR_] at hfg hwB hsw hsg hxf ew0 hq0
      have hX2w : Rw p m (((A ++ B).set A.length R).set (A.length + f) (B.getD 0 [])) := rw_set (rw_set HRW.out ew0) (HRW.out _ (List.mem_append_right _ (get_mem (by omega))))
      have hX2l : (((A ++ B).set A.length R).set (A.length + f) (B.getD 0 [])).length = L.length := by have := HLEN.out; simp; omega
      obtain ⟨X2, hX2⟩ : ∃ X2, X2 = ((A ++ B).set A.length R).set (A.length + f) (B.getD 0 []) := ⟨_, rfl⟩
      rw [← hX2] at hsw hsg hX2w hX2l
      obtain ⟨q, hq_⟩ : ∃ q, q = R.getD k 0 := ⟨_, rfl⟩
      rw [← hq_] at hfg hq0
      have hsc : scaleL p R (invL p q) = W := by rw [hwB, hq_]; rfl
      have HST := Lib.hid hst; have HFL := Lib.hid hfl; have HSW := Lib.hid hsw; have HSG := Lib.hid hsg; have HX0 := Lib.hid hx0; have HXF := Lib.hid hxf; have HFU := Lib.hid hfull; have H3L := Lib.hid hX3l; have H3W := Lib.hid hX3w; have H3D := Lib.hid hX3d; have HSC := Lib.hid hsc; have HQ := Lib.hid hq_; have H2 := Lib.hid hX2; have H2W := Lib.hid hX2w; have H2L := Lib.hid hX2l; have EW := Lib.hid eW; have E0 := Lib.hid ew0
      clear hX2 hX2w hX2l hst hfl hsw hsg hx0 hxf hfull hX3l hX3w hX3d hsc hq_ hwB hR_ hX3 hf_ hW_ hf eW ew0
      have hqne : (q == 0) = false := by simpa using hfg
      go_loop [8] (fun i => ∃ j : Nat, A.length ≤ j ∧ j ≤ A.length + f ∧ i = .int .i64 j) (fun i => A.length + f - (intOf i).toNat)
      case atStart => exact ⟨A.length, Nat.le_refl _, by omega, rfl⟩
      case round =>
        obtain ⟨j, hj1, hj2, rfl⟩ := hrel
        obtain ⟨gj, cj, _, hcj, hfj, hej⟩ := row_at hown hrow HRW.out (j := j) (by have := HLEN.out; rw [List.length_append]; omega)
        by_cases hj : j < A.length + f
        · have hz : ((A ++ B).getD j []).getD k 0 = 0 := by
            obtain ⟨t, rfl⟩ := Nat.exists_eq_add_of_le hj1
            rw [app_get]
            exact HFL.out t (by omega)
          have hek := hej k hkm
          rw [hz] at hek
          clear hz hej hfj
          have hjn : j < L.length := by omega
          go_wp2_with fail
          go_round
          case rel => exact ⟨j + 1, by omega, by omega, by go_num⟩
          case measure => simp [intOf]; omega
        · obtain rfl : j = A.length + f := by omega
          have hek := hej k hkm
          rw [HXF.out, ← HQ.out] at hek
          clear hej hfj
          have hqf : (A.length + f == L.length) = false := by simp; omega
          go_upto_region 10 with fail
          clear hcj hc0 hf0 hek
          go_cut [64] (fun _ wx => ∃ us2, OwV wx w.heap.size (.slice (some ⟨g, 0, none⟩) L.length cap) us2 ∧ RowsF wx w.heap.size us2 X2 ∧ Below w.heap.size w wx)
          case first =>
            refine region_flow [(false, [(0, 0), (1, 0), (2, 0), (3, 0), (4, 0), (5, 0), (6, 0), (7, 1), (8, 0), (9, 0), (10, 0), (11, 1), (12, 0), (13, 4), (14, 0), (15, 4)])] (by kernel_rfl) ?_
            refine norm_K fun K hK => ?_
            change wpList _ _ _ [_, _, _, _, _, _, _, _, _, _, _, _, _, _, _, _] _ _
            have hbd : Below wr.heap.size wr wr.drew := (by repeat (first | exact .refl _ _ | apply bwD | apply bwA | (refine bwS ?_ (by first | omega | simp <;> omega) _) | refine bwC ?_ (by assumption)))
            have hown := hown.below hbd; have hrow := hrow.below hbd; have hbr := bwC hbr hbd
            generalize wr.drew = wq at *
            clear hbd
            obtain ⟨gd, cd, _, hcd, hfd, _⟩ := row_at hown hrow HRW.out (j := A.length) (by have := HLEN.out; rw [List.length_append]; omega)
            obtain ⟨gi, ci, _, hci, hfi, _⟩ := row_at hown hrow HRW.out (j := A.length + f) (by have := HLEN.out; rw [List.length_append]; omega)
            rw [HX0.out] at hfd; rw [HXF.out] at hfi
            have fz1 := hown.free A.length; have fz2 := hown.free (A.length + f)
            have ho1 := hown.set A.length (.slice (some ⟨gi, 0, none⟩) m ci)
            have ho2 := ho1.set (A.length + f) (.slice (some ⟨gd, 0, none⟩) m cd)
            have hr1 := (hrow.setg hown A.length (.slice (some ⟨gi, 0, none⟩) m ci)).set (hfi.setg hown A.length (.slice (some ⟨gi, 0, none⟩) m ci)) A.length
            have hr2 := (hr1.setg ho1 (A.length + f) (.slice (some ⟨gd, 0, none⟩) m cd)).set ((hfd.setg hown A.length (.slice (some ⟨gi, 0, none⟩) m ci)).setg ho1 (A.length + f) (.slice (some ⟨gd, 0, none⟩) m cd)) (A.length + f)
            have hbS := bwS (p := ⟨g, A.length + f, none⟩) (bwS (p := ⟨g, A.length, none⟩) hbr hgB (.slice (some ⟨gi, 0, none⟩) m ci)) hgB (.slice (some ⟨gd, 0, none⟩) m cd)
            rw [← H2.out] at hr2
            clear hr1 ho1
            rcases Nat.eq_zero_or_pos f with hf0 | hf0
            · subst hf0
              rw [Nat.add_zero] at hci
              rw [hcd] at hci
              cases hci
              simp only [Nat.add_zero] at ho2 hr2 hbS
              go_wp2_with fail
              first | (refine hK _ _ ⟨rfl, ?_⟩; clear hK K) | refine ⟨rfl, ?_⟩
              go_wp2_with fail
              go_meet
              case rel => exact ⟨_, ho2, hr2, hbS⟩
            · have hne0 : ¬ f = 0 := by omega
              go_wp2_with fail
              first | (refine hK _ _ ⟨rfl, ?_⟩; clear hK K) | refine ⟨rfl, ?_⟩
              go_wp2_with fail
              go_meet
              case rel => exact ⟨_, ho2, hr2, hbS⟩
          case' rest => skip
          obtain ⟨us2, ho2, hr2, hbS⟩ := hcut
          clear hown hrow hbr
          go_wp2_with fail
          refine region_flow [(false, [(0, 0), (1, 0), (2, 0), (3, 0), (4, 0), (5, 0), (6, 1), (7, 0), (8, 0), (9, 0), (10, 0), (11, 1), (12, 0), (13, 0), (14, 1), (15, 5)]), (false, [(16, 4), (17, 0), (18, 4)])] (by kernel_rfl) ?_
          refine norm_K fun K hK => ?_
          change wpList _ _ _ [_, _, _, _, _, _, _, _, _, _, _, _, _, _, _, _] _ _
          have hbd : Below wc.heap.size wc wc.drew := (by repeat (first | exact .refl _ _ | apply bwD | apply bwA | (refine bwS ?_ (by first | omega | simp <;> omega) _) | refine bwC ?_ (by assumption)))
          have hown := ho2.below hbd; have hrow := hr2.below hbd; have hbr := bwC hbS hbd
          generalize wc.drew = wt at *
          clear ho2 hr2 hbS hbd
          obtain ⟨gr, cr2, _, hcr, hfr, her⟩ := row_at hown hrow H2W.out (j := A.length) (by have := H2L.out; omega)
          rw [HSG.out] at hfr her
          have hek := her k hkm
          rw [← HQ.out] at hek
          clear her
          go_wp2_with fail
          refine (inv_c (by omega) (by omega) (by omega) (by omega)).mono ?_; rintro e w3 ⟨rfl, rfl⟩
          go_wp2_with fail
          first | (refine hK _ _ ⟨Below.refl _ _, ?_⟩; clear hK K) | refine ⟨Below.refl _ _, ?_⟩
          refine norm_K fun K hK => ?_
          change wpList _ _ _ [_, _, _] _ _
          go_wp2_with fail
          have hib := invL_fp (p := p) (a := q) (by omega)
          refine (scaled_c (k := invL p q) (by omega) (by omega) (by omega) (by omega) hfr.sl (E0.out.2.sm (by omega) (by omega)) (by have := E0.out.1; omega)).mono ?_; rintro e w4 ⟨v4, rfl, hv4, hb4⟩
          rw [HSC.out] at hv4
          have hcr := kept hb4 hcr; have hown := hown.below hb4; have hrow := hrow.below hb4
          have hv5 := hv4.more hbr.size
          have hbr := bwC hbr hb4
          obtain ⟨g4, cap4, rfl, _⟩ := id hv4
          rw [EW.out.1] at hv5 ⊢
          clear hv4 hb4
          have fz := hown.free A.length
          have ho3 := hown.set A.length (.slice (some ⟨g4, 0, none⟩) m cap4)
          have hr3 := (hrow.setg hown A.length (.slice (some ⟨g4, 0, none⟩) m cap4)).set (hv5.setg hown A.length (.slice (some ⟨g4, 0, none⟩) m cap4)) A.length
          rw [HSW.out] at hr3
          have hbT := bwS (p := ⟨g, A.length, none⟩) hbr hgB (.slice (some ⟨g4, 0, none⟩) m cap4)
          go_wp2_with fail
          first | (refine hK _ _ ⟨rfl, ?_⟩; clear hK K) | refine ⟨rfl, ?_⟩
          generalize hT_ : w4.setCell ⟨g, A.length, none⟩ (.slice (some ⟨g4, 0, none⟩) m cap4) = wT at *
          generalize us2.set A.length (.slice (some ⟨g4, 0, none⟩) m cap4) = us3 at *
          clear hT_ hcr fz hown hrow hbr hek hfr hv5
          generalize wr = wo at *
          go_wp2_with fail
          go_loopw [86] (fun i wr => ∃ (r : Nat) (us : List Value), r ≤ L.length ∧ i = .int .i64 r ∧ OwV wr w.heap.size (.slice (some ⟨g, 0, none⟩) L.length cap) us ∧ RowsF wr w.heap.size us (elimT p k A.length W r X3) ∧ Below w.heap.size w wr)
            (fun i _ => L.length - (intOf i).toNat)
          case atStart => exact ⟨0, us3, Nat.zero_le _, rfl, ho3, by rw [elimT_0]; exact hr3, hbT⟩
          case round =>
            clear ho3 hr3 hbT
            obtain ⟨r, us, hrl, rfl, hown, hrow, hbr⟩ := hrel
            have HEV := Lib.hid (elimT_ev (k := k) (d := A.length) (r := r) (by omega) EW.out H3W.out)
            have HEL := Lib.hid (show (elimT p k A.length W r X3).length = L.length by rw [elimT_len, H3L.out])
            by_cases hrn : r < L.length
            · obtain ⟨gr, cr2, _, hcr, hfr, her⟩ := row_at hown hrow HEV.out (j := r) (by rw [HEL.out]; exact hrn)
              rw [elimT_at (by rw [H3L.out]; exact hrn), if_neg (by omega)] at hfr her
              have hek := her k hkm
              clear her
              by_cases hrd : r = A.length
              · subst hrd
                have HSK := Lib.hid (elimT_skip (p := p) (k := k) (w := W) (X := X3) (rfl : A.length = A.length))
                go_wp2_with fail
                go_roundw
                case rel => exact ⟨A.length + 1, us, by omega, by go_num, hown, by rw [HSK.out]; exact hrow, hbr⟩
                case measure => simp [intOf]; omega
              · have hne1 : (r == A.length) = false := by simpa using hrd
                have HXE := Lib.hid (H3W.out (X3.getD r []) (get_mem (by rw [H3L.out]; exact hrn)))
                have HSA := Lib.hid (fun h => elimT_same (p := p) (k := k) (d := A.length) (w := W) (X := X3) (r := r) (m := m) (by omega) EW.out H3W.out (by rw [H3L.out]; exact hrn) h)
                have HST2 := Lib.hid (elimT_set (p := p) (k := k) (d := A.length) (w := W) (X := X3) (r := r) (by rw [H3L.out]; exact hrn) hrd)
                obtain ⟨x, hx⟩ : ∃ x, x = X3.getD r [] := ⟨_, rfl⟩
                rw [← hx] at hfr hek HXE HSA HST2
                obtain ⟨q2, hq2⟩ : ∃ q2, q2 = x.getD k 0 := ⟨_, rfl⟩
                rw [← hq2] at hek HSA
                have hq2b := HXE.out.at (p := p) (by omega) k
                rw [← hq2] at hq2b
                have hred : plusL p x W (-q2) = red p k W x := by rw [hq2]; rfl
                have HRD := Lib.hid hred; have HQ2 := Lib.hid hq2; clear hred hq2 hx
                by_cases hq20 : q2 = 0
                · have HE2 := Lib.hid (HSA.out hq20)
                  subst hq20
                  go_wp2_with fail
                  go_roundw
                  case rel => exact ⟨r + 1, us, by omega, by go_num, hown, by rw [HE2.out]; exact hrow, hbr⟩
                  case measure => simp [intOf]; omega
                · have hq2n : (q2 != 0) = true := by simpa using hq20
                  go_wp2_with fail
                  refine region_flow [(false, [(0, 0), (1, 0), (2, 0), (3, 0), (4, 0), (5, 0), (6, 1), (7, 0), (8, 0), (9, 0), (10, 1), (11, 0), (12, 0), (13, 0), (14, 1), (15, 0), (16, 0), (17, 1), (18, 0), (19, 4), (20, 0), (21, 4)])] (by kernel_rfl) ?_
                  refine norm_K fun K hK => ?_
                  change wpList _ _ _ [_, _, _, _, _, _, _, _, _, _, _, _, _, _, _, _, _, _, _, _, _, _] _ _
                  have hbd : Below wr.heap.size wr wr.drew := (by repeat (first | exact .refl _ _ | apply bwD | apply bwA | (refine bwS ?_ (by first | omega | simp <;> omega) _) | refine bwC ?_ (by assumption)))
                  have hown := hown.below hbd; have hrow := hrow.below hbd; have hbr := bwC hbr hbd; have hcr := kept hbd hcr; have hek := kept hbd hek; have hfr := hfr.below hbd
                  generalize wr.drew = wv at *
                  obtain ⟨gd, cd, _, hcd, hfd, _⟩ := row_at hown hrow HEV.out (j := A.length) (by rw [HEL.out]; exact hd)
                  rw [elimT_at (by rw [H3L.out]; exact hd), if_neg (fun h => h.2 rfl), H3D.out] at hfd
                  go_wp2_with fail
                  refine (plus_c (k := -q2) (by omega) (by omega) (by omega) (by omega) hfr.sl hfd.sl (HXE.out.2.sm (by omega) (by omega)) (EW.out.2.sm (by omega) (by omega)) (by rw [EW.out.1, HXE.out.1]) (by have := HXE.out.1; omega)).mono ?_; rintro e w5 ⟨v5, rfl, hv5, hb5⟩
                  rw [HRD.out] at hv5
                  have hcr := kept hb5 hcr; have hown := hown.below hb5; have hrow := hrow.below hb5
                  have hv6 := hv5.more hbr.size
                  have hbr := bwC hbr hb5
                  obtain ⟨g5, cap5, rfl, _⟩ := id hv5
                  have HRL := Lib.hid (show (red p k W x).length = m from (red_ev (by omega) HXE.out EW.out).1)
                  rw [HRL.out] at hv6 ⊢
                  have fz := hown.free r
                  have ho3 := hown.set r (.slice (some ⟨g5, 0, none⟩) m cap5)
                  have hr3 := (hrow.setg hown r (.slice (some ⟨g5, 0, none⟩) m cap5)).set (hv6.setg hown r (.slice (some ⟨g5, 0, none⟩) m cap5)) r
                  rw [HST2.out] at hr3
                  have hbT := bwS (p := ⟨g, r, none⟩) hbr hgB (.slice (some ⟨g5, 0, none⟩) m cap5)
                  go_wp2_with fail
                  first | (refine hK _ _ ⟨rfl, ?_⟩; clear hK K) | refine ⟨rfl, ?_⟩
                  go_wp2_with fail
                  go_roundw
                  case rel => exact ⟨r + 1, _, by omega, by go_num, ho3, hr3, hbT⟩
                  case measure => simp [intOf]; omega
            · obtain rfl : r = L.length := by omega
              have HFU2 := HFU.out
              rw [H3L.out] at HFU2
              rw [HFU2] at hrow
              have HF3 := Lib.hid HFU2; clear HFU2
              go_wp2_with fail
              go_roundw
              case rel => exact ⟨k + 1, us, by omega, by go_num, by rw [HST.out]; simp, hown, by rw [HST.out]; exact hrow, hbr⟩
              case measure => simp [intOf]; omega
end Go.Proofs.Ytfcdhdkhfdhjfaa
