/- Texts joined for a claim: PdD, MarkJ, LawT. -/
import Derived.Test.YtmplpoccalccoaaGreatPdC
import Derived.Test.YtmplpoccalccoaaGreatMarkI
import Derived.Test.YtmplpoccalccoaaGreatLawE
import Derived.Test.YtmplpoccalccoaaGreatJar
/-
  PeirceDimensions: the reference's walk.
-/
namespace Go.Proofs.YtmplpoccalccoaaGreat
open Go.RowKit

set_option maxHeartbeats 8000000 in
set_option maxRecDepth 100000 in
theorem sPeirceDimensions_c {p0 : Int} {x0 : Value} {st0 : List Int} {x1 : Value} {X1 : Her} {w : World} (hx0 : El w x0 st0) (hm0 : st0.length ≤ 1048576) (hx1 : Hv w x1 X1) (hz1 : Hsz X1) :
    Calls Tryz.prog 6 #[.agg #[.int .i64 p0, x0], x1] w fun e w' => ∃ v0, e = .returned (.tuple #[v0, .int .i64 (RPeirceDimensions1 p0 st0 X1)]) ∧ OwI w' w.heap.size v0 (RPeirceDimensions0 p0 st0 X1) ∧ Below w.heap.size w w' := by
  obtain ⟨a0, c0, rfl, _⟩ := id hx0.op
  obtain ⟨dv1, uv1, rfl, hd1_, hu1_⟩ := id hx1; obtain ⟨a1, c1, rfl, _⟩ := id hd1_.op; obtain ⟨b1, e1, rfl, _⟩ := id hu1_; clear hd1_ hu1_
  obtain ⟨W, hW⟩ : ∃ W, W = (((w.alloc (.cells #[.int .i64 p0, .slice a0 st0.length c0] 32)).alloc (.cells #[.slice a1 X1.dg.length c1, .slice b1 X1.up.length e1] 34)).alloc (.cells #[.slice a1 X1.dg.length c1, .slice b1 X1.up.length e1] 34)) := ⟨_, rfl⟩
  have hbW : Below w.heap.size w W := by rw [hW]; exact (by repeat (first | exact Below.refl _ _ | apply blw_drew | apply blw_alloc | (refine blw_set ?_ (by first | omega | (simp; done) | (simp; omega)) _) | refine below_chain ?_ (by assumption)))
  have hx0 := hx0.below hbW
  have hx1 := hx1.below hbW
  have d00 : W.cell? ⟨w.heap.size, 0, none⟩ = some (.int .i64 p0) := by rw [hW]; simp [go_sem]
  have d01 : W.cell? ⟨w.heap.size, 1, none⟩ = some (.slice a0 st0.length c0) := by rw [hW]; simp [go_sem]
  have d10 : W.cell? ⟨w.heap.size + 1, 0, none⟩ = some (.slice a1 X1.dg.length c1) := by rw [hW]; simp [go_sem]
  have d11 : W.cell? ⟨w.heap.size + 1, 1, none⟩ = some (.slice b1 X1.up.length e1) := by rw [hW]; simp [go_sem]
  have gl : Lh W (.slice (some ⟨w.heap.size + 1 + 1, 0, none⟩) 1 1) [X1] := Lh.one hx1 (by rw [hW]; simp [go_sem]) (by rw [hW]; simp [go_sem])
  have hcon := sl16_c (p := p0) hx0 hm0 gl (by intro X hX; simp at hX; subst hX; exact hz1) (by simp)
  rw [hW] at hcon
  by_cases h0 : chkH p0 st0 [X1] = 0
  case neg =>
    have e1 : RPeirceDimensions1 p0 st0 X1 = chkH p0 st0 [X1] := if_neg h0
    rw [show RPeirceDimensions0 p0 st0 X1 = [] from if_neg (by rw [e1]; exact h0), e1]; clear e1
    obtain ⟨k, hk⟩ : ∃ k, k = chkH p0 st0 [X1] := ⟨_, rfl⟩
    rw [← hk] at h0 hcon ⊢
    clear hk
    have hne : (k == 0) = false := by simpa using h0
    go_enter Tryz.func6, Tryz.ntmps6
    go_wp2_with fail
    refine hcon.mono ?_; rintro e w1 ⟨rfl, hb1⟩
    rw [← hW] at hb1
    clear hW hcon
    go_wp2_with fail
    go_ret2
    exact ⟨_, rfl, .inl ⟨rfl, rfl⟩, (by repeat (first | exact Below.refl _ _ | apply blw_drew | apply blw_alloc | (refine blw_set ?_ (by first | omega | (simp; done) | (simp; omega)) _) | refine below_chain ?_ (by assumption)))⟩
  rw [h0] at hcon
  obtain ⟨hd, hall⟩ := chkH_pos h0
  have hX1 : isH p0 (sz st0.length) X1 = true := by simp at hall; exact hall
  clear hall
  have hp1 := hd.hp.lo; have hp2 := hd.hp.hi
  cases hid : idemH p0 st0 X1 with
  | false =>
    have e1 : RPeirceDimensions1 p0 st0 X1 = 5 := by unfold RPeirceDimensions1; rw [if_pos h0, if_neg (by rw [hid]; decide)]
    rw [show RPeirceDimensions0 p0 st0 X1 = [] from if_neg (by rw [e1]; decide), e1]; clear e1
    have HI := Lib.hid hid; clear hid
    go_enter Tryz.func6, Tryz.ntmps6
    go_wp2_with fail
    refine hcon.mono ?_; rintro e w1 ⟨rfl, hb1⟩
    rw [← hW] at hb1
    clear hW hcon
    have hx0 := hx0.below hb1; have hx1 := hx1.below hb1; have d00 := kept hb1 d00; have d01 := kept hb1 d01; have d10 := kept hb1 d10; have d11 := kept hb1 d11
    go_wp2_with fail
    refine (sidem_c hd hx0 hx1 hX1).mono ?_; rintro e w2 ⟨rfl, hb2⟩
    rw [HI.out]
    go_wp2_with fail
    go_ret2
    exact ⟨_, rfl, .inl ⟨rfl, rfl⟩, (by repeat (first | exact Below.refl _ _ | apply blw_drew | apply blw_alloc | (refine blw_set ?_ (by first | omega | (simp; done) | (simp; omega)) _) | refine below_chain ?_ (by assumption)))⟩
  | true =>
    have e1 : RPeirceDimensions1 p0 st0 X1 = 0 := by unfold RPeirceDimensions1; rw [if_pos h0, if_pos hid]
    rw [show RPeirceDimensions0 p0 st0 X1 = dimsL p0 st0 X1 from if_pos e1, e1]; clear e1
    have HI := Lib.hid hid; clear hid h0
    have hsz := sz_le hd
    have hrw := fun k => imgL_rw (k := k) hd hX1
    have hil := fun k => imgL_len (p := p0) (st := st0) (E := X1) (k := k)
    have hit := fun (k : Int) (j : Nat) h => imgL_take (p := p0) (st := st0) (E := X1) (k := k) (j := j) h
    have hbase := fun i => baseH_is (p := p0) (n := sz st0.length) (i := i) (by omega)
    have hpei := fun (k : Int) i => peirH_is (k := k) (by omega) hX1 (hbase i)
    have hdb := fun k => dimP_b (k := k) hd hX1
    have hdt := fun (k : Nat) h => dims_take (p := p0) (st := st0) (E := X1) (k := k) h
    have hbas := fun (W : World) s (h : El W s st0) => sbasis_c (w := W) (p := p0) (s := s) hd h
    obtain ⟨Bs, hBs⟩ : ∃ Bs, Bs = (List.range (3 + (sz st0.length + sz st0.length + sz st0.length))).map (baseH (sz st0.length)) := ⟨_, rfl⟩
    have hBl : Bs.length = 3 + (sz st0.length + sz st0.length + sz st0.length) := by rw [hBs]; simp
    have hBj : ∀ j (h : j < Bs.length), Bs[j] = baseH (sz st0.length) j := fun j h => by subst hBs; simp
    simp only [← hBs] at hbas
    clear hBs
    obtain ⟨n, hn⟩ : ∃ n, n = sz st0.length := ⟨_, rfl⟩
    simp only [← hn] at hrw hil hit hbase hpei hsz hBl hBj
    obtain ⟨D, hD⟩ : ∃ D, D = dimsL p0 st0 X1 := ⟨_, rfl⟩
    have hDl : D.length = 3 := by rw [hD]; rfl
    simp only [← hD] at hdt ⊢
    have HN := Lib.hid hn; have HDL := Lib.hid hDl; have HD := Lib.hid hD
    have HIL := Lib.hid hil; have HIT := Lib.hid hit; have HDT := Lib.hid hdt; have HBS := Lib.hid hbase; have HPE := Lib.hid hpei; have HBL := Lib.hid hBl; have HBJ := Lib.hid hBj
    clear hn hDl hD hil hit hdt hbase hpei hBl hBj
    go_enter Tryz.func6, Tryz.ntmps6
    go_wp2_with fail
    refine hcon.mono ?_; rintro e w1 ⟨rfl, hb1⟩
    rw [← hW] at hb1
    clear hW hcon
    have hx0 := hx0.below hb1; have hx1 := hx1.below hb1; have d00 := kept hb1 d00; have d01 := kept hb1 d01; have d10 := kept hb1 d10; have d11 := kept hb1 d11
    go_wp2_with fail
    refine (sidem_c hd hx0 hx1 hX1).mono ?_; rintro e w2 ⟨rfl, hb2⟩
    rw [HI.out]
    have hx0 := hx0.below hb2; have hx1 := hx1.below hb2; have d00 := kept hb2 d00; have d01 := kept hb2 d01; have d10 := kept hb2 d10; have d11 := kept hb2 d11
    go_wp2_with fail
    refine (hbas _ _ hx0).mono ?_; rintro e w3 ⟨vb, rfl, hL, hb3⟩
    have hx0 := hx0.below hb3; have hx1 := hx1.below hb3; have d00 := kept hb3 d00; have d01 := kept hb3 d01; have d10 := kept hb3 d10; have d11 := kept hb3 d11
    have hbw := below_chain hbW (below_chain hb1 (below_chain hb2 hb3))
    clear hb1 hb2 hb3 hbW gl hbas
    obtain ⟨ab, cb, rfl, hcell⟩ := id hL
    obtain ⟨bb, ob, rfl, hcell2⟩ := hcell.resolve_left (fun e => by have := HBL.out; rw [e] at this; simp at this; omega)
    have HC := Lib.hid hcell2; clear hcell2 hcell
    go_wp2_with fail
    have hbA : Below w3.heap.size w3 (w3.alloc (.cells #[] 2)) := (by repeat (first | exact Below.refl _ _ | apply blw_drew | apply blw_alloc | (refine blw_set ?_ (by first | omega | (simp; done) | (simp; omega)) _) | refine below_chain ?_ (by assumption)))
    go_loopw [8, 9] (fun o i wr => ∃ (k g cap : Nat), k ≤ 3 ∧ i = .int .i64 k ∧ o = .slice (some ⟨g, 0, none⟩) k cap ∧ OwnI wr w3.heap.size g k cap (D.take k) ∧ Below w3.heap.size w3 wr)
      (fun _ i _ => 3 - (intOf i).toNat)
    case atStart => exact ⟨0, w3.heap.size, 0, by omega, rfl, rfl, OwnI.new (Nat.le_refl _), hbA⟩
    case round =>
      clear hbA
      obtain ⟨k, g, cap, hk, rfl, rfl, hown, hbr⟩ := hrel
      by_cases hk3 : k < 3
      · have hx0 := hx0.below hbr; have hx1 := hx1.below hbr; have d00 := kept hbr d00; have d01 := kept hbr d01; have d10 := kept hbr d10; have d11 := kept hbr d11
        generalize wr = wo at *
        have HX0 := Lib.hid hx0; have HX1 := Lib.hid hx1; have D0 := Lib.hid d00; have D1 := Lib.hid d01; have D2 := Lib.hid d10; have D3 := Lib.hid d11; have HOW := Lib.hid hown
        have hI0 : OwV (wo.alloc (.cells #[] 22)) wo.heap.size (.slice (some ⟨wo.heap.size, 0, none⟩) 0 0) [] := OwV.new (Nat.le_refl _)
        have hbo : Below wo.heap.size wo (wo.alloc (.cells #[] 22)) := (by repeat (first | exact Below.refl _ _ | apply blw_drew | apply blw_alloc | (refine blw_set ?_ (by first | omega | (simp; done) | (simp; omega)) _) | refine below_chain ?_ (by assumption)))
        have hk3b : decide ((k : Int) < 3) = true := by rw [decide_eq_true_eq]; omega
        go_wp2_with fail
        go_loopw [10, 11] (fun o i wr => ∃ (j g2 cap2 : Nat) (us2 : List Value), j ≤ 3 + (n + n + n) ∧ i = .int .i64 j ∧ o = .slice (some ⟨g2, 0, none⟩) us2.length cap2 ∧ us2.length = j ∧ OwV wr wo.heap.size (.slice (some ⟨g2, 0, none⟩) us2.length cap2) us2 ∧ RowsF wr wo.heap.size us2 ((imgL p0 st0 X1 k).take j) ∧ Below wo.heap.size wo wr)
          (fun _ i _ => 3 + (n + n + n) - (intOf i).toNat)
        case atStart => exact ⟨0, wo.heap.size, 0, [], Nat.zero_le _, rfl, rfl, rfl, hI0, RowsF.nil _ _, hbo⟩
        case round =>
          clear hI0 hbo
          obtain ⟨j, g2, cap2, us2, hj, rfl, rfl, hul, hI, hR, hb5⟩ := hrel
          have HJ := Lib.hid hul; clear hul
          have hx0 := (HX0.out).below hb5; have hx1 := (HX1.out).below hb5; have d00 := kept hb5 D0.out; have d01 := kept hb5 D1.out; have d10 := kept hb5 D2.out; have d11 := kept hb5 D3.out
          have hown := HOW.out.below hb5
          by_cases hltB : j < Bs.length
          · have hlt : j < 3 + (n + n + n) := by have := HBL.out; omega
            obtain ⟨d, u, hc0, hc1, hxv⟩ := HC.out j hltB
            have hb7 := below_chain hbr hb5
            have hc0 := kept hb7 hc0; have hc1 := kept hb7 hc1; have hxv := hxv.below hb7
            clear hb7
            rw [HBJ.out j hltB] at hxv
            have HT := Lib.hid (HIT.out (k : Int) j hlt)
            have hY := HPE.out (k : Int) j
            have hB := HBS.out j
            obtain ⟨bj, hbj⟩ : ∃ bj, bj = baseH n j := ⟨_, rfl⟩
            simp only [← hbj] at hB hY HT hxv
            have hB2 : isH p0 (sz st0.length) bj = true := by rw [← HN.out]; exact hB
            have hYl := nums_len hY
            have HYL := Lib.hid hYl
            clear hYl hbj
            go_wp2_with fail
            go_wp2_with fail
            refine region_flow [(false, [(0, 0), (1, 1), (2, 1), (3, 0), (4, 0), (5, 0), (6, 1), (7, 0), (8, 4), (9, 4), (10, 4), (11, 4), (12, 0)])] (by kernel_rfl) ?_
            refine norm_K fun K hK => ?_
            change wpList _ _ _ [_, _, _, _, _, _, _, _, _, _, _, _, _] _ _
            have hb21 : Below wr.heap.size wr wr.drew := (by repeat (first | exact Below.refl _ _ | apply blw_drew | apply blw_alloc | (refine blw_set ?_ (by first | omega | (simp; done) | (simp; omega)) _) | refine below_chain ?_ (by assumption)))
            have hI := hI.below hb21; have hR := hR.below hb21; have hx0 := hx0.below hb21; have hx1 := hx1.below hb21; have d00 := kept hb21 d00; have d01 := kept hb21 d01; have d10 := kept hb21 d10; have d11 := kept hb21 d11; have hc0 := kept hb21 hc0; have hc1 := kept hb21 hc1; have hxv := hxv.below hb21
            generalize wr.drew = wq at *
            go_wp2_with fail
            refine (speirce_c (k := k) hd hx0 hx1 hX1 hxv hB2).mono ?_; rintro e w22 ⟨v2, rfl, h2, hb22⟩
            have hI := hI.below hb22; have hR := hR.below hb22; have hx0 := hx0.below hb22; have hx1 := hx1.below hb22; have d00 := kept hb22 d00; have d01 := kept hb22 d01; have d10 := kept hb22 d10; have d11 := kept hb22 d11; have hc0 := kept hb22 hc0; have hc1 := kept hb22 hc1; have hxv := hxv.below hb22
            go_wp2_with fail
            refine (sflat_c h2.hv hY (by omega) (by omega)).mono ?_; rintro e w23 ⟨v3, rfl, h3, hb23⟩
            have hI := hI.below hb23; have hR := hR.below hb23; have hx0 := hx0.below hb23; have hx1 := hx1.below hb23; have d00 := kept hb23 d00; have d01 := kept hb23 d01; have d10 := kept hb23 d10; have d11 := kept hb23 d11; have hc0 := kept hb23 hc0; have hc1 := kept hb23 hc1; have hxv := hxv.below hb23; have h2 := h2.below hb23
            have hbw5 : Below wo.heap.size wo w23 := (by repeat (first | exact Below.refl _ _ | apply blw_drew | apply blw_alloc | (refine blw_set ?_ (by first | omega | (simp; done) | (simp; omega)) _) | refine below_chain ?_ (by assumption)))
            obtain ⟨g3, cap3, rfl, _⟩ := id h3
            rw [HYL.out] at h3 ⊢
            have hz24 : wo.heap.size ≤ w22.heap.size := by have := hb5.size; have := hb21.size; have := hb22.size; omega
            have h4 := h3.more (B' := wo.heap.size) hz24
            go_wp2_with (at_builtin; refine appr_one rfl _ _ rfl w23 wo.heap.size w23.heap.size rfl (.slice (some ⟨g2, 0, none⟩) us2.length cap2) us2 rfl (.slice (some ⟨g3, 0, none⟩) (3 + (n + n + n)) cap3) 1 rfl rfl hI hbw5.size (by have := HJ.out; omega) ?_; intro g' cap' w' ho' hb' hg' hge)
            first | (refine hK _ _ ⟨rfl, ?_⟩; clear hK K) | refine ⟨rfl, ?_⟩
            go_wp2_with fail
            go_roundw
            case rel => exact ⟨j + 1, g', cap', us2 ++ [.slice (some ⟨g3, 0, none⟩) (3 + (n + n + n)) cap3], by omega, by go_num, by simp, by simp [HJ.out], by simpa using ho', by rw [HT.out]; exact (hR.app hI hg').snoc (h4.app hI hg'), hbw5.trans hb'⟩
            case measure => simp [intOf]; omega
          · obtain rfl : j = 3 + (n + n + n) := by have := HBL.out; omega
            rw [take_all (by rw [HIL.out]; exact Nat.le_refl _)] at hR
            have hre := hR.re hI
            have hLn : (imgL p0 st0 X1 k).length ≤ 100000 := by rw [HIL.out]; omega
            have hred := fun W y (h : Re W y (imgL p0 st0 X1 k)) => sreduced_c (w := W) hd.hp (hrw k) h (by omega) (by omega) (by omega)
            have hdk := hdb k
            obtain ⟨Rd, hRd⟩ : ∃ Rd, Rd = redL p0 (imgL p0 st0 X1 k) := ⟨_, rfl⟩
            have hdim : dimP p0 st0 X1 k = (Rd.length : Int) := by rw [hRd]; rfl
            simp only [← hRd] at hred
            rw [hdim] at hdk
            have HT := Lib.hid (HDT.out k hk3); have HDM := Lib.hid hdim
            clear hRd hdim
            generalize wr = wp at *
            go_wp2_with fail
            refine (hred _ _ hre).mono ?_; rintro e w6 ⟨v, rfl, hv, hb7⟩
            have hown := hown.below hb7
            obtain ⟨av, cv, rfl, _⟩ := id hv
            have hbx : Below w3.heap.size w3 w6 := below_chain hbr (below_chain hb5 hb7)
            clear hv hre hb7
            go_wp2_with (at_builtin; refine app_one rfl _ _ rfl w6 w3.heap.size g k cap _ rfl (Rd.length : Int) _ rfl hown hbx.size (by omega) ?_; intro g' cap' w' hown' hb' hg' hgg)
            go_roundw
            case rel => exact ⟨k + 1, g', cap', by omega, by go_num, rfl, by rw [HT.out, HDM.out]; exact hown', hbx.trans hb'⟩
            case measure => simp [intOf]; omega
      · obtain rfl : k = 3 := by omega
        have e3 : D.take 3 = D := take_all (by rw [HDL.out]; exact Nat.le_refl _)
        rw [e3] at hown
        have HE3 := Lib.hid e3; clear e3
        go_wp2_with fail
        go_ret2
        exact ⟨_, rfl, (hown.fr.more hbw.size).ow (Nat.le_refl _), below_chain hbw hbr⟩
end Go.Proofs.YtmplpoccalccoaaGreat
/-
  Sizes of matrices that passed the laws' size check.
-/
namespace Go.Proofs.YtmplpoccalccoaaGreat
open Go.RowKit

theorem szGo_sum : ∀ {xss : List (List Int)} {left : Int}, 0 ≤ left → ¬ szGo left xss < 0 → (sumL xss : Int) ≤ left
  | [], left, h0, _ => by simpa [sumL] using h0
  | x :: xs, left, h0, h => by
    rw [szGo_cons] at h
    split at h
    · exact absurd (by decide) h
    · have := szGo_sum (xss := xs) (by omega) h
      simp only [sumL]
      omega
theorem szH_hs {X : Her} {left : Int} (h0 : 0 ≤ left) (h1 : left ≤ 1048576) (h : ¬ szH left X < 0) : Hs X := by
  refine ⟨szH_pos h0 h1 h, ?_⟩
  unfold szH szR at h
  split at h
  · exact absurd (by decide) h
  · split at h
    · exact absurd (by decide) h
    · have := szGo_sum (by omega) h
      omega
end Go.Proofs.YtmplpoccalccoaaGreat
/-
  What the laws with a matrix as result need beside: results kept over a store into an older block.
-/
namespace Go.Proofs.YtmplpoccalccoaaGreat
open Go.RowKit

theorem OwH.set_ {w : World} {B : Nat} {v : Value} {X : Her} (h : OwH w B v X) {p : Addr} (hp : p.block < B) (u : Value) : OwH (w.setCell p u) B v X := by
  rcases h with h | h
  · exact .inl h
  · exact .inr (h.set_ hp u)
theorem OwH.hr {w : World} {B : Nat} {v : Value} {X : Her} (h : OwH w B v X) : Hr w v X := h.hv.hr
theorem Hs.none : Hs ⟨[], []⟩ := ⟨⟨by simp, by simp, fun xs hx => by simp at hx⟩, by simp [sumL]⟩
end Go.Proofs.YtmplpoccalccoaaGreat
