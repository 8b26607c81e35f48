/-
  Reduced rows by the reference: the walks of a row put and of all rows put.
-/
import Derived.Test.YtfcdhdkhfdhjfaaJas
namespace Go.Proofs.Ytfcdhdkhfdhjfaa
open Go.RowKit

set_option maxHeartbeats 4000000 in
set_option maxRecDepth 100000 in
theorem sput_c {p : Int} {rows x : Value} {m : Nat} {L : List (List Int)} {xs : List Int} {w : World} (hp : IsP p) (hL : Rref p m L) (hr : Re w rows L) (hx : Sl w x xs) (ex : Ev p m xs) (hm1 : 1 ≤ m) (hm2 : m ≤ 1000) :
    Calls Try.prog 86 #[.int .i64 p, rows, x] w fun e w' => ∃ v, e = .returned v ∧ Re w' v (putRow p L xs) ∧ Below w.heap.size w w' := by
  have hp1 := hp.lo
  have hp2 := hp.hi
  have hsh := hL.short
  have er := rest_ev (p := p) (by omega) hL.rw_ ex
  have hcon := fun W r y (h1 : Re W r L) (h2 : Sl W y xs) => srest_c (w := W) hp hL h1 h2 ex hm1 hm2
  have hput : putRow p L xs = if leadN (restL p L xs) = (restL p L xs).length then L else insL p (leadN (restL p L xs)) (normW p (leadN (restL p L xs)) (restL p L xs)) L := rfl
  obtain ⟨Y, hY⟩ : ∃ Y, Y = putRow p L xs := ⟨_, rfl⟩
  rw [← hY] at hput ⊢
  clear hY
  obtain ⟨R, hR_⟩ : ∃ R, R = restL p L xs := ⟨_, rfl⟩
  simp only [← hR_] at hcon hput er
  clear hR_
  have hRl := er.1
  have fr := er.2
  have hfirst := fun W y (h : Sl W y R) => first_c (w := W) h (by omega)
  obtain ⟨ld, hld⟩ : ∃ ld, ld = leadN R := ⟨_, rfl⟩
  have hle : ld ≤ m := by rw [hld, ← hRl]; exact leadN_le R
  have hnz : ld < m → R.getD ld 0 ≠ 0 := fun h => by rw [hld]; exact lead_nz R (by rw [← hld]; omega)
  simp only [← hld] at hfirst hput
  have HLD := Lib.hid hld; clear hld
  by_cases hz : ld = m
  · subst hz
    rw [if_pos hRl.symm] at hput
    have HP := Lib.hid hput; have HRL := Lib.hid hRl; clear hput hRl er
    obtain ⟨ar, cr, rfl, _⟩ := id hr
    go_enter Try.func86, Try.ntmps86
    go_wp2_with fail
    refine (hcon _ _ _ hr hx).mono ?_; rintro e w1 ⟨v, rfl, ⟨g, cap, rfl, hv⟩, hb⟩
    rw [HRL.out] at hv ⊢
    go_wp2_with fail
    refine (hfirst _ _ hv.sl).mono ?_; rintro e w2 ⟨rfl, rfl⟩
    go_wp2_with fail
    go_ret
    exact ⟨_, rfl, by rw [HP.out]; exact hr.below hb, hb⟩
  have hlt0 : ld < m := by omega
  rw [if_neg (by omega)] at hput
  have hnz := hnz hlt0
  have hqb := er.at (p := p) (by omega) ld
  have ew := normW_ev (p := p) (k := ld) (by omega) er
  have hwd : scaleL p R (invL p (R.getD ld 0)) = normW p ld R := rfl
  obtain ⟨W, hW_⟩ : ∃ W, W = normW p ld R := ⟨_, rfl⟩
  rw [← hW_] at hput ew hwd
  clear hW_
  have hins := insF_eq (p := p) (k := ld) (w := W) (L := L)
  rw [← hput] at hins
  obtain ⟨q0, hq0⟩ : ∃ q0, q0 = R.getD ld 0 := ⟨_, rfl⟩
  rw [← hq0] at hnz hqb hwd
  have hib := (invL_fp (p := p) (a := q0) (by omega))
  have hwl : W.length ≤ 1000000 := by have := ew.1; omega
  have fw := ew.2
  have HA := Lib.hid (And.intro hRl (And.intro hput (And.intro hwd (And.intro hins (And.intro hq0 (And.intro ew.1 hnz)))))); clear hRl hput hwd hins hq0
  have hle2 : (ld == m) = false := by simpa using hz
  obtain ⟨ar, cr, rfl, hr1, hr2, hR⟩ := id hr
  clear hnz
  go_enter Try.func86, Try.ntmps86
  go_wp2_with fail
  refine (hcon _ _ _ hr hx).mono ?_; rintro e w1 ⟨v, rfl, ⟨g, cap, rfl, hv⟩, hb⟩
  rw [HA.out.1] at hv ⊢
  have hcq := hv.hold (i := ld) hlt0
  rw [← HA.out.2.2.2.2.1] at hcq
  go_wp2_with fail
  refine (hfirst _ _ hv.sl).mono ?_; rintro e w2 ⟨rfl, rfl⟩
  go_wp2_with fail
  refine (sinv_c hp (by have := HA.out.2.2.2.2.2.2; omega) hqb.2).mono ?_; rintro e w2 ⟨rfl, rfl⟩
  go_wp2_with fail
  refine (sscale_c (k := invL p q0) (by omega) (by omega) (by omega) (by omega) hv.sl (fr.sm (by omega) (by omega)) (by have := HA.out.1; omega)).mono ?_; rintro e w2 ⟨v2, rfl, hv2, hb2⟩
  rw [HA.out.2.2.1] at hv2
  have hW := hv2.more hb.size
  obtain ⟨g2, cap2, rfl, _⟩ := id hv2
  rw [HA.out.2.2.2.2.2.1] at hW ⊢
  have hbw := bwC hb hb2
  clear hv hv2 hcq hb hb2 hqb er
  go_wp2_with fail
  have hzw2 := hbw.size
  have hbA : Below w2.heap.size w2 (w2.alloc (.cells #[] 22)) := (by repeat (first | exact .refl _ _ | apply bwD | apply bwA | (refine bwS ?_ (by first | omega | simp <;> omega) _) | refine bwC ?_ (by assumption)))
  have hW := hW.below hbA
  have hbw := bwC hbw hbA
  obtain ⟨w3, hw3⟩ : ∃ w3, w3 = w2.alloc (.cells #[] 22) := ⟨_, rfl⟩
  have hnew : OwV w3 w.heap.size (.slice (some ⟨w2.heap.size, 0, none⟩) 0 0) [] := by rw [hw3]; exact OwV.new hzw2
  rw [← hw3] at hbw hW ⊢
  clear hw3 hbA
  go_loopw [9, 10, 11] (fun o b i wr => ∃ (k : Nat) (bb : Bool) (g cap : Nat) (us : List Value), k ≤ L.length ∧ i = .int .i64 k ∧ b = .bool bb ∧ o = .slice (some ⟨g, 0, none⟩) us.length cap ∧ OwV wr w.heap.size (.slice (some ⟨g, 0, none⟩) us.length cap) us ∧ RowsF wr w.heap.size us (insF p ld W (L.take k)).1 ∧ bb = (insF p ld W (L.take k)).2 ∧ FrI wr w.heap.size (.slice (some ⟨g2, 0, none⟩) m cap2) W ∧ Below w.heap.size w wr)
    (fun _ _ i _ => L.length - (intOf i).toNat)
  case atStart => exact ⟨0, false, w2.heap.size, 0, [], Nat.zero_le _, rfl, rfl, rfl, hnew, RowsF.nil _ _, rfl, hW, hbw⟩
  case round =>
    obtain ⟨k, bb, g, cap, us, hk, rfl, rfl, rfl, hown, hrow, hbb, hW, hbX⟩ := hrel
    clear hbw
    have hul : us.length ≤ 1001 := by
      have h1 := hrow.1
      have h2 := insF_len (p := p) (k := ld) (w := W) (L := L.take k)
      rw [List.length_take] at h2
      omega
    by_cases hlt : k < L.length
    · obtain ⟨b, off, rfl, hcell⟩ := hR.resolve_left (fun e => by rw [e] at hlt; simp at hlt)
      obtain ⟨a2, c2, s, hs, hc, hE, ht⟩ := Re.get hcell hlt
      have es := hL.rw_ s hs
      have hl1 : s.length ≤ 1000000 := by have := es.1; omega
      have hls : ld < s.length := by have := es.1; omega
      obtain ⟨b2, off2, c2', heq, hcap1, hcap2, hA⟩ := hE.op1 (by have := es.1; omega)
      cases heq
      have hq := hA.get' (m := ld) (by have := es.1; omega)
      have hqb := es.at (p := p) (by omega) ld
      have hqd : s[ld]'(by have := es.1; omega) = s.getD ld 0 := by simp [List.getD_eq_getElem?_getD, List.getElem?_eq_getElem (show ld < s.length by have := es.1; omega)]
      rw [hqd] at hq
      obtain ⟨q, hq_⟩ : ∃ q, q = s.getD ld 0 := ⟨_, rfl⟩
      rw [← hq_] at hq hqb
      have hredd : plusL p s (scaleL p W q) (p - 1) = red p ld W s := by rw [hq_]; exact red_minus
      have hredl : (red p ld W s).length = m := (red_ev (p := p) (m := m) (k := ld) (by omega) es ⟨HA.out.2.2.2.2.2.1, fw⟩).1
      have hsn := insF_snoc (p := p) (k := ld) (w := W) ht
      have hl2 : (scaleL p W q).length = s.length := by rw [scaleL_len, HA.out.2.2.2.2.2.1, es.1]
      have fs := es.2
      have fsc := scaleL_fp (p := p) (xs := W) (k := q) (by omega)
      have hfs := fun W y (h : Sl W y s) => first_c (w := W) h hl1
      obtain ⟨l2, hl2_⟩ : ∃ l2, l2 = leadN s := ⟨_, rfl⟩
      simp only [← hl2_] at hfs
      have H := Lib.hid (And.intro hredd (And.intro hq_ (And.intro ht (And.intro es.1 hl2_)))); clear hredd hqd hq_ ht
      have HR := Lib.hid hredl; clear hredl
      have HL2 := Lib.hid hl2; clear hl2
      obtain ⟨acc, hacc⟩ : ∃ acc, acc = (insF p ld W (L.take k)).1 := ⟨_, rfl⟩
      rw [← hacc] at hrow
      have hpair : insF p ld W (L.take k) = (acc, bb) := by rw [hacc, hbb]
      clear hA hbb hacc
      have hE0 := hE; have hq0 := hq; have hc0 := hc
      have hc := kept hbX hc; have hq := kept hbX hq; have hE := hE.below hbX
      cases bb with
      | true =>
        have hI : insF p ld W (L.take (k + 1)) = (acc ++ [red p ld W s], true) := by rw [hsn, hpair]; rfl
        have HI := Lib.hid hI; clear hI hsn hpair hl2_ es hE0 hq0 hc0
        go_wp2_with fail
        refine region_flow [(false, [(0, 0), (1, 0), (2, 0), (3, 0), (4, 0), (5, 1), (6, 0), (7, 0), (8, 0), (9, 0), (10, 1), (11, 0), (12, 0), (13, 1), (14, 0), (15, 5)]), (false, [(16, 4), (17, 4), (18, 4), (19, 0)])] (by kernel_rfl) ?_
        refine norm_K fun K hK => ?_
        change wpList _ _ _ [_, _, _, _, _, _, _, _, _, _, _, _, _, _, _, _] _ _
        have hb21 : Below wr.heap.size wr wr.drew := (by repeat (first | exact .refl _ _ | apply bwD | apply bwA | (refine bwS ?_ (by first | omega | simp <;> omega) _) | refine bwC ?_ (by assumption)))
        have hown := hown.below hb21; have hrow := hrow.below hb21; have hW := hW.below hb21; have hE := hE.below hb21; have hq := kept hb21 hq; have hc := kept hb21 hc
        generalize wr.drew = wq at *
        go_wp2_with fail
        refine (sscale_c (k := q) (by omega) (by omega) (by omega) (by omega) hW.sl (fw.sm (by omega) (by omega)) hwl).mono ?_; rintro e w22 ⟨v3, rfl, hv3, hb22⟩
        have hown := hown.below hb22; have hrow := hrow.below hb22; have hW := hW.below hb22; have hE := hE.below hb22; have hq := kept hb22 hq; have hc := kept hb22 hc
        go_wp2_with fail
        have hz0 : Below wq.heap.size wq w22 := (by repeat (first | exact .refl _ _ | apply bwD | apply bwA | (refine bwS ?_ (by first | omega | simp <;> omega) _) | refine bwC ?_ (by assumption)))
        first | (refine hK _ _ ⟨hz0, ?_⟩; clear hK K) | refine ⟨hz0, ?_⟩
        clear hz0
        refine norm_K fun K hK => ?_
        change wpList _ _ _ [_, _, _, _] _ _
        go_wp2_with fail
        refine (sminus_c (by omega) (by omega) hE.sl hv3.sl (fs.sm (by omega) (by omega)) (fsc.sm (by omega) (by omega)) HL2.out hl1).mono ?_; rintro e w23 ⟨v4, rfl, hv4, hb23⟩
        have hown := hown.below hb23; have hrow := hrow.below hb23; have hW := hW.below hb23; have hE := hE.below hb23; have hq := kept hb23 hq; have hc := kept hb23 hc; have hv3 := hv3.below hb23
        rw [H.out.1] at hv4
        have hbw : Below w.heap.size w w23 := (by repeat (first | exact .refl _ _ | apply bwD | apply bwA | (refine bwS ?_ (by first | omega | simp <;> omega) _) | refine bwC ?_ (by assumption)))
        obtain ⟨g4, cap4, rfl, _⟩ := id hv4
        rw [HR.out] at hv4 ⊢
        have hv5 := hv4.more (B' := w.heap.size) (by have := hbX.size; have := hb21.size; have := hb22.size; omega)
        go_wp2_with (at_builtin; refine appr_one rfl _ _ rfl w23 w.heap.size w23.heap.size rfl (.slice (some ⟨g, 0, none⟩) us.length cap) (us) rfl (.slice (some ⟨g4, 0, none⟩) m cap4) 1 rfl rfl hown hbw.size (by first | omega | (simp; omega)) ?_; intro g' cap' w' ho' hb' hg' hge)
        first | (refine hK _ _ ⟨rfl, ?_⟩; clear hK K) | refine ⟨rfl, ?_⟩
        go_wp2_with fail
        go_roundw
        case rel => exact ⟨k + 1, true, g', cap', us ++ [.slice (some ⟨g4, 0, none⟩) m cap4], by omega, by go_num, rfl, by simp, by simpa using ho', by rw [HI.out]; exact (hrow.app hown hg').snoc (hv5.app hown hg'), by rw [HI.out], hW.app hown hg', hbw.trans hb'⟩
        case measure => simp [intOf]; omega
      | false =>
        by_cases hgt : ld < l2
        · have hI : insF p ld W (L.take (k + 1)) = (acc ++ [W] ++ [red p ld W s], true) := by rw [hsn, hpair]; unfold stepI; rw [← hl2_]; simp [hgt]
          have HI := Lib.hid hI; clear hI hsn hpair hl2_ es
          go_wp2_with fail
          refine (hfs _ _ hE.sl).mono ?_; rintro e w4 ⟨rfl, rfl⟩
          go_wp2_with (at_builtin; refine appr_one rfl _ _ rfl wr w.heap.size wr.heap.size rfl (.slice (some ⟨g, 0, none⟩) us.length cap) us rfl (.slice (some ⟨g2, 0, none⟩) m cap2) 1 rfl rfl hown hbX.size (by omega) ?_; intro g5 cap5 wv ho5 hb5 hg5 hge5)
          have hbX := hbX.trans hb5
          have hW := hW.app hown hg5
          have hrow := (hrow.app hown hg5).snoc hW
          have hown := ho5
          have hc := kept hbX hc0; have hq := kept hbX hq0; have hE := hE0.below hbX
          clear hE0 hq0 hc0 hb5 hg5 ho5
          go_wp2_with fail
          refine region_flow [(false, [(0, 0), (1, 0), (2, 0), (3, 0), (4, 0), (5, 1), (6, 0), (7, 0), (8, 0), (9, 0), (10, 1), (11, 0), (12, 0), (13, 1), (14, 0), (15, 5)]), (false, [(16, 4), (17, 4), (18, 4), (19, 0)])] (by kernel_rfl) ?_
          refine norm_K fun K hK => ?_
          change wpList _ _ _ [_, _, _, _, _, _, _, _, _, _, _, _, _, _, _, _] _ _
          have hb21 : Below wv.heap.size wv wv.drew := (by repeat (first | exact .refl _ _ | apply bwD | apply bwA | (refine bwS ?_ (by first | omega | simp <;> omega) _) | refine bwC ?_ (by assumption)))
          have hown := hown.below hb21; have hrow := hrow.below hb21; have hW := hW.below hb21; have hE := hE.below hb21; have hq := kept hb21 hq; have hc := kept hb21 hc
          generalize wv.drew = wq at *
          go_wp2_with fail
          refine (sscale_c (k := q) (by omega) (by omega) (by omega) (by omega) hW.sl (fw.sm (by omega) (by omega)) hwl).mono ?_; rintro e w22 ⟨v3, rfl, hv3, hb22⟩
          have hown := hown.below hb22; have hrow := hrow.below hb22; have hW := hW.below hb22; have hE := hE.below hb22; have hq := kept hb22 hq; have hc := kept hb22 hc
          go_wp2_with fail
          have hz0 : Below wq.heap.size wq w22 := (by repeat (first | exact .refl _ _ | apply bwD | apply bwA | (refine bwS ?_ (by first | omega | simp <;> omega) _) | refine bwC ?_ (by assumption)))
          first | (refine hK _ _ ⟨hz0, ?_⟩; clear hK K) | refine ⟨hz0, ?_⟩
          clear hz0
          refine norm_K fun K hK => ?_
          change wpList _ _ _ [_, _, _, _] _ _
          go_wp2_with fail
          refine (sminus_c (by omega) (by omega) hE.sl hv3.sl (fs.sm (by omega) (by omega)) (fsc.sm (by omega) (by omega)) HL2.out hl1).mono ?_; rintro e w23 ⟨v4, rfl, hv4, hb23⟩
          have hown := hown.below hb23; have hrow := hrow.below hb23; have hW := hW.below hb23; have hE := hE.below hb23; have hq := kept hb23 hq; have hc := kept hb23 hc; have hv3 := hv3.below hb23
          rw [H.out.1] at hv4
          have hbw : Below w.heap.size w w23 := (by repeat (first | exact .refl _ _ | apply bwD | apply bwA | (refine bwS ?_ (by first | omega | simp <;> omega) _) | refine bwC ?_ (by assumption)))
          obtain ⟨g4, cap4, rfl, _⟩ := id hv4
          rw [HR.out] at hv4 ⊢
          have hv5 := hv4.more (B' := w.heap.size) (by have := hbX.size; have := hb21.size; have := hb22.size; omega)
          go_wp2_with (at_builtin; refine appr_one rfl _ _ rfl w23 w.heap.size w23.heap.size rfl (.slice (some ⟨g5, 0, none⟩) (us.length + 1) cap5) ((us ++ [.slice (some ⟨g2, 0, none⟩) m cap2])) rfl (.slice (some ⟨g4, 0, none⟩) m cap4) 1 rfl rfl hown hbw.size (by first | omega | (simp; omega)) ?_; intro g' cap' w' ho' hb' hg' hge)
          first | (refine hK _ _ ⟨rfl, ?_⟩; clear hK K) | refine ⟨rfl, ?_⟩
          go_wp2_with fail
          go_roundw
          case rel => exact ⟨k + 1, true, g', cap', (us ++ [.slice (some ⟨g2, 0, none⟩) m cap2]) ++ [.slice (some ⟨g4, 0, none⟩) m cap4], by omega, by go_num, rfl, by simp, by simpa using ho', by rw [HI.out]; exact (hrow.app hown hg').snoc (hv5.app hown hg'), by rw [HI.out], hW.app hown hg', hbw.trans hb'⟩
          case measure => simp [intOf]; omega
        · have hI : insF p ld W (L.take (k + 1)) = (acc ++ [red p ld W s], false) := by rw [hsn, hpair]; unfold stepI; rw [← hl2_]; simp [hgt]
          have HI := Lib.hid hI; clear hI hsn hpair hl2_ es hE0 hq0 hc0
          go_wp2_with fail
          refine (hfs _ _ hE.sl).mono ?_; rintro e w4 ⟨rfl, rfl⟩
          go_wp2_with fail
          refine region_flow [(false, [(0, 0), (1, 0), (2, 0), (3, 0), (4, 0), (5, 1), (6, 0), (7, 0), (8, 0), (9, 0), (10, 1), (11, 0), (12, 0), (13, 1), (14, 0), (15, 5)]), (false, [(16, 4), (17, 4), (18, 4), (19, 0)])] (by kernel_rfl) ?_
          refine norm_K fun K hK => ?_
          change wpList _ _ _ [_, _, _, _, _, _, _, _, _, _, _, _, _, _, _, _] _ _
          have hb21 : Below wr.heap.size wr wr.drew := (by repeat (first | exact .refl _ _ | apply bwD | apply bwA | (refine bwS ?_ (by first | omega | simp <;> omega) _) | refine bwC ?_ (by assumption)))
          have hown := hown.below hb21; have hrow := hrow.below hb21; have hW := hW.below hb21; have hE := hE.below hb21; have hq := kept hb21 hq; have hc := kept hb21 hc
          generalize wr.drew = wq at *
          go_wp2_with fail
          refine (sscale_c (k := q) (by omega) (by omega) (by omega) (by omega) hW.sl (fw.sm (by omega) (by omega)) hwl).mono ?_; rintro e w22 ⟨v3, rfl, hv3, hb22⟩
          have hown := hown.below hb22; have hrow := hrow.below hb22; have hW := hW.below hb22; have hE := hE.below hb22; have hq := kept hb22 hq; have hc := kept hb22 hc
          go_wp2_with fail
          have hz0 : Below wq.heap.size wq w22 := (by repeat (first | exact .refl _ _ | apply bwD | apply bwA | (refine bwS ?_ (by first | omega | simp <;> omega) _) | refine bwC ?_ (by assumption)))
          first | (refine hK _ _ ⟨hz0, ?_⟩; clear hK K) | refine ⟨hz0, ?_⟩
          clear hz0
          refine norm_K fun K hK => ?_
          change wpList _ _ _ [_, _, _, _] _ _
          go_wp2_with fail
          refine (sminus_c (by omega) (by omega) hE.sl hv3.sl (fs.sm (by omega) (by omega)) (fsc.sm (by omega) (by omega)) HL2.out hl1).mono ?_; rintro e w23 ⟨v4, rfl, hv4, hb23⟩
          have hown := hown.below hb23; have hrow := hrow.below hb23; have hW := hW.below hb23; have hE := hE.below hb23; have hq := kept hb23 hq; have hc := kept hb23 hc; have hv3 := hv3.below hb23
          rw [H.out.1] at hv4
          have hbw : Below w.heap.size w w23 := (by repeat (first | exact .refl _ _ | apply bwD | apply bwA | (refine bwS ?_ (by first | omega | simp <;> omega) _) | refine bwC ?_ (by assumption)))
          obtain ⟨g4, cap4, rfl, _⟩ := id hv4
          rw [HR.out] at hv4 ⊢
          have hv5 := hv4.more (B' := w.heap.size) (by have := hbX.size; have := hb21.size; have := hb22.size; omega)
          go_wp2_with (at_builtin; refine appr_one rfl _ _ rfl w23 w.heap.size w23.heap.size rfl (.slice (some ⟨g, 0, none⟩) us.length cap) (us) rfl (.slice (some ⟨g4, 0, none⟩) m cap4) 1 rfl rfl hown hbw.size (by first | omega | (simp; omega)) ?_; intro g' cap' w' ho' hb' hg' hge)
          first | (refine hK _ _ ⟨rfl, ?_⟩; clear hK K) | refine ⟨rfl, ?_⟩
          go_wp2_with fail
          go_roundw
          case rel => exact ⟨k + 1, false, g', cap', us ++ [.slice (some ⟨g4, 0, none⟩) m cap4], by omega, by go_num, rfl, by simp, by simpa using ho', by rw [HI.out]; exact (hrow.app hown hg').snoc (hv5.app hown hg'), by rw [HI.out], hW.app hown hg', hbw.trans hb'⟩
          case measure => simp [intOf]; omega
    · obtain rfl : k = L.length := by omega
      rw [take_all (Nat.le_refl _)] at hrow hbb
      have hins := HA.out.2.2.2.1
      cases bb with
      | true =>
        rw [← hbb, if_pos rfl] at hins
        rw [hins] at hrow
        have HB := Lib.hid (And.intro hbb hins); clear hbb hins
        go_wp2_with fail
        go_ret
        exact ⟨_, rfl, hrow.re hown, hbX⟩
      | false =>
        rw [← hbb, if_neg (by decide)] at hins
        have HB := Lib.hid hins; have HB2 := Lib.hid hbb; clear hbb hins
        go_wp2_with (at_builtin; refine appr_one rfl _ _ rfl wr w.heap.size wr.heap.size rfl (.slice (some ⟨g, 0, none⟩) us.length cap) us rfl (.slice (some ⟨g2, 0, none⟩) m cap2) 1 rfl rfl hown hbX.size (by omega) ?_; intro g5 cap5 wv ho5 hb5 hg5 hge5)
        have hW := hW.app hown hg5
        have hrow := (hrow.app hown hg5).snoc hW
        rw [HB.out] at hrow
        go_wp2_with fail
        go_ret
        exact ⟨_, rfl, hrow.re (by simpa using ho5), hbX.trans hb5⟩
set_option maxHeartbeats 1000000 in
theorem sreduced_c {p : Int} {lists : Value} {m : Nat} {L : List (List Int)} {w : World} (hp : IsP p) (hL : Rw p m L) (hr : Re w lists L) (hm1 : 1 ≤ m) (hm2 : m ≤ 1000) (hn : L.length ≤ 1000000) :
    Calls Try.prog 65 #[.int .i64 p, lists] w fun e w' => ∃ v, e = .returned v ∧ Re w' v (redL p L) ∧ Below w.heap.size w w' := by
  obtain ⟨ar, cr, rfl, hr1, hr2, hR⟩ := id hr
  have hall := fun k => red_fold hp Rref.nil (take_rw hL k)
  go_enter Try.func65, Try.ntmps65
  go_wp2_with fail
  have hb0 : Below w.heap.size w (w.alloc (.cells #[] 22)) := (by repeat (first | exact .refl _ _ | apply bwD | apply bwA | (refine bwS ?_ (by first | omega | simp <;> omega) _) | refine bwC ?_ (by assumption)))
  go_loopw [5, 6] (fun o i wr => ∃ (k n c : Nat) (a : Option Addr), k ≤ L.length ∧ i = .int .i64 k ∧ o = .slice a n c ∧ Re wr (.slice a n c) (redL p (L.take k)) ∧ Below w.heap.size w wr)
    (fun _ i _ => L.length - (intOf i).toNat)
  case atStart => exact ⟨0, 0, 0, _, Nat.zero_le _, rfl, rfl, ⟨_, 0, rfl, Nat.le_refl _, by decide, .inl rfl⟩, hb0⟩
  case round =>
    obtain ⟨k, n, c, a, hk, rfl, rfl, hre, hbr⟩ := hrel
    by_cases hlt : k < L.length
    · obtain ⟨b, off, rfl, hcell⟩ := hR.resolve_left (fun e => by rw [e] at hlt; simp at hlt)
      obtain ⟨a2, c2, s, hs, hc, hE, ht⟩ := Re.get hcell hlt
      have hc := kept hbr hc
      have hE := hE.below hbr
      have hrr := (hall k).1
      have hst : redL p (L.take (k + 1)) = putRow p (redL p (L.take k)) s := by unfold redL; rw [ht, List.foldl_append]; rfl
      have H := Lib.hid (And.intro hst ht); clear hst ht
      go_wp2_with fail
      refine (sput_c hp hrr hre hE.sl (hL s hs) hm1 hm2).mono ?_; rintro e w2 ⟨v, rfl, hv, hb2⟩
      rw [show putRow p (List.foldl (putRow p) [] (List.take k L)) s = redL p (L.take (k + 1)) from H.out.1.symm] at hv
      obtain ⟨a3, c3, rfl, h3, h4, h5⟩ := id hv
      have hbr := bwC hbr hb2
      go_wp2_with fail
      go_roundw
      case rel => exact ⟨k + 1, _, c3, a3, by omega, by go_num, rfl, hv, hbr⟩
      case measure => simp [intOf]; omega
    · obtain rfl : k = L.length := by omega
      rw [take_all (Nat.le_refl _)] at hre
      go_wp2_with fail
      go_ret
      exact ⟨_, rfl, hre, hbr⟩
end Go.Proofs.Ytfcdhdkhfdhjfaa
