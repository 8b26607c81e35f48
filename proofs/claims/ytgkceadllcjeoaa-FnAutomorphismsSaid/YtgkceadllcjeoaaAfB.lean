/-
  AutomorphismFrom: the program's and the reference's.
-/
import Derived.Test.YtgkceadllcjeoaaJbd
import Derived.Test.YtgkceadllcjeoaaTrE
import Derived.Test.YtgkceadllcjeoaaJbf
namespace Go.Proofs.Ytgkceadllcjeoaa
open Go.RowKit

def OutM (w : World) (M : List (List Int)) (c : Int) (e : Ending) (w' : World) : Prop := ∃ v, e = .returned (.tuple #[v, .int .i64 c]) ∧ ReR w' w.heap.size v M ∧ Below w.heap.size w w'
theorem ReR.nilA {w : World} {B c : Nat} {a : Option Addr} (hc : c ≤ 9223372036854775807) : ReR w B (.slice a 0 c) [] := ⟨a, c, rfl, Nat.zero_le _, hc, .inl rfl⟩
theorem LsR.one {w : World} {B : Nat} {z : Value} {xs : List Int} (hz : ElR w B z xs) (hB : B ≤ w.heap.size) : LsR (w.alloc (.cells #[z] 24)) B (.slice (some ⟨w.heap.size, 0, none⟩) 1 1) [z] [xs] := by
  have hb : Below w.heap.size w (w.alloc (.cells #[z] 24)) := (by repeat (first | exact .refl _ _ | apply bwD | apply bwA | (refine bwS ?_ (by first | omega | simp <;> omega) _) | refine bwC ?_ (by assumption)))
  refine ⟨World.ownsRow_lit (base := B) (e := 24) (size := 1) w #[z] 1 hB (by decide) rfl, rfl, fun j a b => ?_, fun y hy b off sp n c e => ?_⟩
  · obtain rfl : j = 0 := by simpa using a
    exact hz.below hb
  · rw [List.mem_singleton.1 hy] at e
    have := (hz.2 _ _ _ _ _ e).2
    intro e2
    simp [Value.ownBlock] at e2
    omega
theorem ReR.shapeA {w : World} {B : Nat} {v : Value} {xss : List (List Int)} (h : ReR w B v xss) : ∃ a c, v = .slice a xss.length c := by
  obtain ⟨a, c, rfl, _⟩ := h
  exact ⟨_, _, rfl⟩
theorem map_take {α β : Type} {f : α → β} {C : List α} {j : Nat} (hj : j < C.length) : (C.take (j + 1)).map f = (C.take j).map f ++ [f C[j]] := by
  rw [List.take_succ_eq_append_getElem hj, List.map_append]; rfl
theorem one_cell {us : List Value} {xss : List (List Int)} {w : World} {B : Nat} {v : Value} (h : LsR w B v us xss) : ∀ u ∈ us, u.oneCell' = true := fun u hu => by
  obtain ⟨j, hj, rfl⟩ := List.getElem_of_mem hu
  obtain ⟨a, c, e, _⟩ := (h.els j hj (by have := h.len; omega)).1.op
  rw [e]; rfl
set_option maxHeartbeats 8000000 in
set_option maxRecDepth 100000 in
theorem iaf_c {p : Int} {s l : Value} {st : List Int} {ims : List (List Int)} {w : World} (hs : El w s st) (hm : st.length ≤ 1048576) (hl : Re w l ims) (hil : ims.length ≤ 1000) (hiw : ∀ xs ∈ ims, xs.length ≤ 1048576) :
    Calls Try.prog 7 #[.agg #[.int .i64 p, s], l] w fun e w' => OutM w (RAf0 p st ims) (RAf1 p st ims) e w' := by
  obtain ⟨a0, c0, rfl, _⟩ := id hs.op
  obtain ⟨a1, c1, rfl, _⟩ := id hl
  have hchk := fun W (h1 : El W (.slice a0 st.length c0) st) (h2 : Re W (.slice a1 ims.length c1) ims) => chk3_c (w := W) (p := p) h1 h2 hm (by omega) hiw
  obtain ⟨K, hK⟩ : ∃ K, K = chk3 p st ims := ⟨_, rfl⟩
  simp only [← hK] at hchk
  have HK := Lib.hid hK; clear hK hiw
  by_cases hk0 : K = 0
  case neg =>
    have hkb : (K != 0) = true := by simpa using hk0
    have E := Lib.hid (show RAf1 p st ims = K by unfold RAf1; rw [← HK.out, if_neg hk0])
    have E2 := Lib.hid (show RAf0 p st ims = [] by unfold RAf0; rw [E.out, if_neg hk0])
    rw [E.out, E2.out]
    go_enter Try.func7, Try.ntmps7
    have hb0 : Below w.heap.size w (w.alloc (.cells #[.int .i64 p, .slice a0 st.length c0] 26)) := (by repeat (first | exact .refl _ _ | apply bwD | apply bwA | (refine bwS ?_ (by first | omega | simp <;> omega) _) | refine bwC ?_ (by assumption)))
    have hs := hs.below hb0; have hl := hl.below hb0
    have d0 : (w.alloc (.cells #[.int .i64 p, .slice a0 st.length c0] 26)).cell? ⟨w.heap.size, 0, none⟩ = some (.int .i64 p) := by simp [go_sem]
    have d1 : (w.alloc (.cells #[.int .i64 p, .slice a0 st.length c0] 26)).cell? ⟨w.heap.size, 1, none⟩ = some (.slice a0 st.length c0) := by simp [go_sem]
    go_wp2_with fail
    refine (hchk _ hs hl).mono ?_; rintro e w1 ⟨rfl, hb1⟩
    have hs := hs.below hb1; have hl := hl.below hb1; have d0 := kept hb1 d0; have d1 := kept hb1 d1
    go_wp2_with fail
    go_ret2
    exact ⟨_, rfl, ReR.nilA (by decide), (by repeat (first | exact .refl _ _ | apply bwD | apply bwA | (refine bwS ?_ (by first | omega | simp <;> omega) _) | refine bwC ?_ (by assumption)))⟩
  subst hk0
  obtain ⟨hd, hev⟩ := chk3_posA HK.out.symm
  have hsz := sz_le hd
  have hl3 := hd.hl
  have hp1 := hd.hp.lo
  by_cases hlen : ims.length = st.length
  case neg =>
    have hlb : ((ims.length : Int) != (st.length : Int)) = true := by simp; omega
    have E := Lib.hid (show RAf1 p st ims = 2 by unfold RAf1; rw [← HK.out, if_pos rfl, if_neg hlen])
    have E2 := Lib.hid (show RAf0 p st ims = [] by unfold RAf0; rw [E.out, if_neg (by decide)])
    rw [E.out, E2.out]
    go_enter Try.func7, Try.ntmps7
    have hb0 : Below w.heap.size w (w.alloc (.cells #[.int .i64 p, .slice a0 st.length c0] 26)) := (by repeat (first | exact .refl _ _ | apply bwD | apply bwA | (refine bwS ?_ (by first | omega | simp <;> omega) _) | refine bwC ?_ (by assumption)))
    have hs := hs.below hb0; have hl := hl.below hb0
    have d0 : (w.alloc (.cells #[.int .i64 p, .slice a0 st.length c0] 26)).cell? ⟨w.heap.size, 0, none⟩ = some (.int .i64 p) := by simp [go_sem]
    have d1 : (w.alloc (.cells #[.int .i64 p, .slice a0 st.length c0] 26)).cell? ⟨w.heap.size, 1, none⟩ = some (.slice a0 st.length c0) := by simp [go_sem]
    go_wp2_with fail
    refine (hchk _ hs hl).mono ?_; rintro e w1 ⟨rfl, hb1⟩
    have hs := hs.below hb1; have hl := hl.below hb1; have d0 := kept hb1 d0; have d1 := kept hb1 d1
    go_wp2_with fail
    go_ret2
    exact ⟨_, rfl, ReR.nilA (by decide), (by repeat (first | exact .refl _ _ | apply bwD | apply bwA | (refine bwS ?_ (by first | omega | simp <;> omega) _) | refine bwC ?_ (by assumption)))⟩
  have hlb : ((ims.length : Int) != (st.length : Int)) = false := by simp [hlen]
  have HL := Lib.hid hlen; have HEV := Lib.hid hev; clear hlen hev
  have hil3 : ims.length ≤ 3 := by have := HL.out; omega
  have h1f : RAf1 p st ims = if autK p st (afM p st ims) = true then 0 else 5 := by unfold RAf1; rw [← HK.out, if_pos rfl, if_pos HL.out]
  have hMat : matB p (sz st.length) (afM p st ims) = true := trL_mat (by omega) (by rw [afC_len, HL.out]; rfl) (afC_ev (by omega) HEV.out)
  have haut := fun W s m (h1 : El W s st) (h2 : Re W m (afM p st ims)) => isaut_c (w := W) hd h1 h2 hMat
  have hCl : (afC p st ims).length = sz st.length := by rw [afC_len, HL.out]; rfl
  have htr := fun W m (h : Re W m (afC p st ims)) => transp_c (w := W) (n := sz st.length) h (fun r hr => (afC_ev (by omega) HEV.out r hr).1) (by omega) (by omega) (by omega)
  have hM0 : trL (afC p st ims) (sz st.length) = afM p st ims := rfl
  rw [hM0] at htr
  have hR0 : RAf0 p st ims = if (if autK p st (afM p st ims) = true then (0 : Int) else 5) = 0 then afM p st ims else [] := by unfold RAf0; rw [h1f]
  rw [h1f, hR0]
  obtain ⟨M, hM⟩ : ∃ M, M = afM p st ims := ⟨_, rfl⟩
  obtain ⟨B, hB⟩ : ∃ B, B = autK p st M := ⟨_, rfl⟩
  obtain ⟨C, hC⟩ : ∃ C, C = afC p st ims := ⟨_, rfl⟩
  rw [← hM] at haut htr ⊢
  rw [← hC] at htr hCl
  simp only [← hB] at haut ⊢
  have HC := Lib.hid (And.intro hC hCl)
  clear hM hB hC hCl hMat h1f hR0 hM0
  have h0c : ∀ W s, El W s st → Calls Try.prog 39 #[.agg #[.int .i64 p, s], .int .i64 0] W _ := fun W s h => elem_c (p := p) (i := 0) (w := W) hd h hsz.1
  go_enter Try.func7, Try.ntmps7
  have hb0 : Below w.heap.size w (w.alloc (.cells #[.int .i64 p, .slice a0 st.length c0] 26)) := (by repeat (first | exact .refl _ _ | apply bwD | apply bwA | (refine bwS ?_ (by first | omega | simp <;> omega) _) | refine bwC ?_ (by assumption)))
  have hs := hs.below hb0; have hl := hl.below hb0
  have d0 : (w.alloc (.cells #[.int .i64 p, .slice a0 st.length c0] 26)).cell? ⟨w.heap.size, 0, none⟩ = some (.int .i64 p) := by simp [go_sem]
  have d1 : (w.alloc (.cells #[.int .i64 p, .slice a0 st.length c0] 26)).cell? ⟨w.heap.size, 1, none⟩ = some (.slice a0 st.length c0) := by simp [go_sem]
  go_wp2_with fail
  refine (hchk _ hs hl).mono ?_; rintro e w1 ⟨rfl, hb1⟩
  have hs := hs.below hb1; have hl := hl.below hb1; have d0 := kept hb1 d0; have d1 := kept hb1 d1
  have hbx : Below w.heap.size w w1 := (by repeat (first | exact .refl _ _ | apply bwD | apply bwA | (refine bwS ?_ (by first | omega | simp <;> omega) _) | refine bwC ?_ (by assumption)))
  go_wp2_with fail
  refine (h0c _ _ hs).mono ?_; rintro e w2 ⟨z0, rfl, hz0, hb2⟩
  have hls := LsR.one hz0.elr hb2.size
  have hbl : Below w1.heap.size w1 (w2.alloc (.cells #[z0] 24)) := hb2.trans ((show Below w2.heap.size w2 (w2.alloc (.cells #[z0] 24)) from (by repeat (first | exact .refl _ _ | apply bwD | apply bwA | (refine bwS ?_ (by first | omega | simp <;> omega) _) | refine bwC ?_ (by assumption)))).mono hb2.size)
  obtain ⟨az, cz, rfl, _⟩ := id hz0.el.op
  go_wp2_with fail
  clear hz0 hchk h0c
  go_loopw [7, 30] (fun o q wr => ∃ (k : Nat) (us : List Value), k ≤ ims.length ∧ q = .int .i64 k ∧ LsR wr w1.heap.size o us (afC p st (ims.take k)) ∧ Below w1.heap.size w1 wr) (fun _ q _ => ims.length - (intOf q).toNat)
  case atStart => exact ⟨0, _, Nat.zero_le _, rfl, hls, hbl⟩
  case round =>
    clear hls hbl hb2
    obtain ⟨k, us, hk, rfl, hls, hbr⟩ := hrel
    obtain ⟨al, cl, rfl⟩ := hls.form
    by_cases hlt : k < ims.length
    · have hlti : (k : Int) < ims.length := by omega
      obtain ⟨_, _, e_, _, _, hR⟩ := id hl
      cases e_
      obtain ⟨b1, o1, rfl, hcell⟩ := hR.resolve_left (fun e => by rw [e] at hlt; simp at hlt)
      clear hR
      obtain ⟨a3, c3, im, him, hci, hE3, htk⟩ := Re.get hcell hlt
      have HTK := Lib.hid (afC_take (p := p) (st := st) htk); clear htk
      have hlenC : (afC p st (ims.take k)).length = 2 ^ k := by rw [afC_len, List.length_take, Nat.min_eq_left (by omega)]
      have hevC := afC_ev (p := p) (st := st) (ims := ims.take k) (by omega) (fun c hc => HEV.out c (List.mem_of_mem_take hc))
      have hevI := HEV.out im him
      obtain ⟨D, hD⟩ : ∃ D, D = afC p st (ims.take k) := ⟨_, rfl⟩
      rw [← hD] at hls hlenC hevC HTK
      have h8 : 2 ^ k ≤ 4 := Nat.le_trans (Nat.pow_le_pow_right (by decide) (show k ≤ 2 by omega)) (by decide)
      have h8b : 1 ≤ 2 ^ k := Nat.pow_pos (by decide)
      have hD4 : D.length ≤ 4 := by omega
      have hD1 : 1 ≤ D.length := by omega
      have hul := hls.len
      have hu4 : us.length ≤ 4 := by omega
      have hu1 : 0 < us.length := by omega
      have HUL := Lib.hid hul; have HEVC := Lib.hid hevC; have HEVI := Lib.hid hevI
      clear hul hevC hevI hlenC h8 h8b hD him
      generalize wr = wo at *
      obtain ⟨g, cap, e_, hg1, hg2, hg3, hg4, hg5⟩ := hls.own.cellsR hu1
      cases e_
      have hci := kept hbr hci
      have hcl := clone2_c (w := wo) (b := g) (off := 0) (c := cl) (us := us) (fun j hj => by rw [Nat.zero_add]; exact hg5 j hj) (one_cell hls) hu1 (by omega)
      go_wp2_with fail
      refine hcl.mono ?_; rintro e w3 ⟨g2, cap2, rfl, hcp, hb3⟩
      have hls := hls.below hb3
      have hbr := hbr.trans (hb3.mono hbr.size)
      have hgl : w1.heap.size ≤ wo.heap.size := by omega
      have hg2lo := (hcp.lt g2 rfl).1
      have hcp := hcp.more_ hgl
      have hne : g ≠ g2 := by omega
      clear hcl hci
      have HG5 := Lib.hid hg5; clear hg5
      go_wp2_with fail
      have HU := Lib.hid (show us.take us.length = us from List.take_length ..)
      go_loopw [7, 37] (fun o q wr => ∃ (j gl cl : Nat) (vs : List Value), j ≤ us.length ∧ q = .int .i64 j ∧ vs.take us.length = us ∧ o = .slice (some ⟨gl, 0, none⟩) vs.length cl ∧ gl ≠ g2 ∧ LsR wr w1.heap.size (.slice (some ⟨gl, 0, none⟩) vs.length cl) vs (D ++ (D.take j).map fun x => mulL p st x im) ∧ OwV wr w1.heap.size (.slice (some ⟨g2, 0, none⟩) us.length cap2) us ∧ Below w1.heap.size w1 wr) (fun _ q _ => us.length - (intOf q).toNat)
      case atStart => exact ⟨0, g, cl, us, Nat.zero_le _, rfl, HU.out, rfl, hne, by simpa using hls, hcp, hbr⟩
      case round =>
        clear hls hcp hbr
        obtain ⟨j, gl, cl2, vs, hj, rfl, hvs, rfl, hne2, hls, hcp, hbr⟩ := hrel
        have HV := Lib.hid hvs; clear hvs
        have HVL := Lib.hid (show vs.length = D.length + j by have h := hls.len; rw [List.length_append, List.length_map, List.length_take, Nat.min_eq_left (by have := HUL.out; omega)] at h; exact h)
        by_cases hlt2 : j < us.length
        · have hlt2i : (j : Int) < us.length := by omega
          obtain ⟨gc, capc, ec, _, _, _, _, hcc⟩ := hcp.cellsR hu1
          cases ec
          have hcj := hcc j hlt2
          have hjD : j < D.length := by have := HUL.out; omega
          have hjv : j < vs.length := by have := HVL.out; omega
          have hxj := hls.els j hjv (by rw [List.length_append]; omega)
          rw [List.getElem_append_left hjD] at hxj
          have hug : us[j] = vs[j] := by
            have e : (vs.take us.length)[j]? = us[j]? := by rw [HV.out]
            rw [List.getElem?_take_of_lt hlt2, List.getElem?_eq_getElem hjv, List.getElem?_eq_getElem hlt2] at e
            exact (Option.some.inj e).symm
          rw [hug] at hcj
          obtain ⟨ax, cx, hax⟩ : ∃ a c, vs[j] = .slice a D[j].length c := by obtain ⟨a, c, e, _⟩ := hxj.1.op; exact ⟨a, c, e⟩
          rw [hax] at hcj hxj
          have hsW := hs.below hbr; have hE3W := hE3.below hbr
          have d0W := kept hbr d0; have d1W := kept hbr d1
          clear hcc hax hug
          go_wp2_with fail
          refine (times_c hd hsW hxj.1 hE3W (HEVC.out _ (List.getElem_mem hjD)) HEVI.out).mono ?_; rintro e w5 ⟨z, rfl, hz, hb5⟩
          have hzn := hls.fresh hz.elr
          have hls5 := hls.below hb5
          have hcp5 := hcp.below hb5
          have hbr5 := hbr.trans (hb5.mono hbr.size)
          have hz5 := hz.elr.more hbr.size
          obtain ⟨az5, cz5, rfl, _⟩ := id hz.el.op
          have hgl5 := (hls5.own.lt gl rfl).2
          have hg25 := (hcp5.lt g2 rfl).2
          clear hls hcp hz hb5 hsW hE3W d0W d1W hcj hxj
          go_wp2_with (at_builtin; refine appr_one rfl _ _ rfl w5 w1.heap.size _ rfl (.slice (some ⟨gl, 0, none⟩) vs.length cl2) vs rfl (.slice az5 (mulL p st D[j] im).length cz5) 1 rfl rfl hls5.own hbr5.size (by have := HVL.out; omega) ?_; intro g' cap' w8 hown' hgb' hg' hge)
          have hls8 := hls5.snoc hz5 hzn (nv := .slice (some ⟨g', 0, none⟩) (vs.length + 1) cap') rfl hown' hgb' hg' hge
          have hne8 : g' ≠ g2 := by
            rcases hge with e | e
            · cases e; exact hne2
            · omega
          have hcp8 := hcp5.kept hg' (.inr (fun e => hne2 (Option.some.inj e).symm))
          go_roundw
          case rel => exact ⟨j + 1, g', cap', vs ++ [.slice az5 (mulL p st D[j] im).length cz5], by omega, by go_num, by rw [List.take_append_of_le_length (by have := HVL.out; have := HUL.out; omega)]; exact HV.out, by rw [List.length_append]; rfl, hne8, by rw [map_take hjD, ← List.append_assoc, List.length_append]; exact hls8, hcp8, hbr5.trans hgb'⟩
          case measure => simp [intOf]; omega
        · obtain rfl : j = us.length := by omega
          have hlf : ¬ (us.length : Int) < us.length := by omega
          rw [List.take_of_length_le (by have := HUL.out; omega), ← HTK.out] at hls
          go_wp2_with fail
          go_roundw
          case rel => exact ⟨k + 1, vs, by omega, by go_num, hls, hbr⟩
          case measure => simp [intOf]; omega
    · obtain rfl : k = ims.length := by omega
      have hlf : ¬ (ims.length : Int) < ims.length := by omega
      rw [take_all (Nat.le_refl _), ← HC.out.1] at hls
      have hs := hs.below hbr; have d0 := kept hbr d0; have d1 := kept hbr d1
      have hbw := hbx.trans (hbr.mono hbx.size)
      go_wp2_with fail
      refine (htr _ _ hls.rer.re).mono ?_; rintro e w6 ⟨v6, rfl, hv6, hb6⟩
      have hs := hs.below hb6; have d0 := kept hb6 d0; have d1 := kept hb6 d1
      have hbw6 := hbw.trans (hb6.mono hbw.size)
      obtain ⟨a6, c6, rfl⟩ := hv6.shapeA
      go_wp2_with fail
      refine (haut _ _ _ hs hv6.re).mono ?_; rintro e w7 ⟨rfl, hb7⟩
      have hbw7 := hbw6.trans (hb7.mono hbw6.size)
      have hv7 : ReR w7 w.heap.size _ M := (hv6.keep hb7.size fun b _ h2 => hb7.block b h2).more hbw.size
      cases B
      · go_wp2_with fail
        go_ret2
        exact ⟨_, rfl, ReR.nilA (by decide), hbw7⟩
      · go_wp2_with fail
        go_ret2
        exact ⟨_, rfl, hv7, hbw7⟩
end Go.Proofs.Ytgkceadllcjeoaa
