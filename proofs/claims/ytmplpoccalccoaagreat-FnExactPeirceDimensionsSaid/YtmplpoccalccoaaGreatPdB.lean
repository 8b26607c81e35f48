/-
  PeirceDimensions: the program's walk.
-/
import Derived.Test.YtmplpoccalccoaaGreatJbm
import Derived.Test.YtmplpoccalccoaaGreatLinG
import Derived.Test.YtmplpoccalccoaaGreatLawE
import Derived.Test.YtmplpoccalccoaaGreatMarkI
import Derived.Test.YtmplpoccalccoaaGreatJbd
namespace Go.Proofs.YtmplpoccalccoaaGreat
open Go.RowKit

def RPeirceDimensions1 (p0 : Int) (st0 : List Int) (X1 : Her) : Int := if chkH p0 st0 [X1] = 0 then (if idemH p0 st0 X1 = true then 0 else 5) else chkH p0 st0 [X1]
def RPeirceDimensions0 (p0 : Int) (st0 : List Int) (X1 : Her) : List Int := if RPeirceDimensions1 p0 st0 X1 = 0 then dimsL p0 st0 X1 else []
theorem lengthr_c {a : Option Addr} {n c : Nat} {w : World} (hn : n ≤ 1000000) :
    Calls Tryz.prog 34 #[.slice a n c] w fun e w' => e = .returned (.int .i64 n) ∧ w = w' := by
  go_enter Tryz.func34, Tryz.ntmps34
  go_wp2
  go_ret
  exact ⟨rfl, rfl⟩
set_option maxHeartbeats 4000000 in
set_option maxRecDepth 100000 in
theorem iPeirceDimensions_c {p0 : Int} {x0 : Value} {st0 : List Int} {x1 : Value} {X1 : Her} {w : World} (hx0 : El w x0 st0) (hm0 : st0.length ≤ 1048576) (hx1 : Hv w x1 X1) (hz1 : Hsz X1) :
    Calls Tryz.prog 9 #[.agg #[.int .i64 p0, x0], x1] w fun e w' => ∃ v0, e = .returned (.tuple #[v0, .int .i64 (RPeirceDimensions1 p0 st0 X1)]) ∧ OwI w' w.heap.size v0 (RPeirceDimensions0 p0 st0 X1) ∧ Below w.heap.size w w' := by
  obtain ⟨a0, c0, rfl, _⟩ := id hx0.op
  obtain ⟨dv1, uv1, rfl, hd1_, hu1_⟩ := id hx1; obtain ⟨a1, c1, rfl, _⟩ := id hd1_.op; obtain ⟨b1, e1, rfl, _⟩ := id hu1_; clear hd1_ hu1_
  obtain ⟨W, hW⟩ : ∃ W, W = (((w.alloc (.cells #[.int .i64 p0, .slice a0 st0.length c0] 32)).alloc (.cells #[.slice a1 X1.dg.length c1, .slice b1 X1.up.length e1] 34)).alloc (.cells #[.slice a1 X1.dg.length c1, .slice b1 X1.up.length e1] 34)) := ⟨_, rfl⟩
  have hbW : Below w.heap.size w W := by rw [hW]; exact (by repeat (first | exact Below.refl _ _ | apply blw_drew | apply blw_alloc | (refine blw_set ?_ (by first | omega | (simp; done) | (simp; omega)) _) | refine below_chain ?_ (by assumption)))
  have hx0 := hx0.below hbW
  have hx1 := hx1.below hbW
  have d00 : W.cell? ⟨w.heap.size, 0, none⟩ = some (.int .i64 p0) := by rw [hW]; simp [go_sem]
  have d01 : W.cell? ⟨w.heap.size, 1, none⟩ = some (.slice a0 st0.length c0) := by rw [hW]; simp [go_sem]
  have d10 : W.cell? ⟨w.heap.size + 1, 0, none⟩ = some (.slice a1 X1.dg.length c1) := by rw [hW]; simp [go_sem]
  have d11 : W.cell? ⟨w.heap.size + 1, 1, none⟩ = some (.slice b1 X1.up.length e1) := by rw [hW]; simp [go_sem]
  have gl : Lh W (.slice (some ⟨w.heap.size + 1 + 1, 0, none⟩) 1 1) [X1] := Lh.one hx1 (by rw [hW]; simp [go_sem]) (by rw [hW]; simp [go_sem])
  have hcon := chkh_c (p := p0) hx0 hm0 gl (by intro X hX; simp at hX; subst hX; exact hz1) (by simp)
  rw [hW] at hcon
  by_cases h0 : chkH p0 st0 [X1] = 0
  case neg =>
    have e1 : RPeirceDimensions1 p0 st0 X1 = chkH p0 st0 [X1] := if_neg h0
    rw [show RPeirceDimensions0 p0 st0 X1 = [] from if_neg (by rw [e1]; exact h0), e1]; clear e1
    obtain ⟨k, hk⟩ : ∃ k, k = chkH p0 st0 [X1] := ⟨_, rfl⟩
    rw [← hk] at h0 hcon ⊢
    clear hk
    have hne : (k == 0) = false := by simpa using h0
    go_enter Tryz.func9, Tryz.ntmps9
    go_wp2_with fail
    refine hcon.mono ?_; rintro e w1 ⟨rfl, hb1⟩
    rw [← hW] at hb1
    clear hW hcon
    go_wp2_with fail
    go_ret2
    exact ⟨_, rfl, .inl ⟨rfl, rfl⟩, (by repeat (first | exact Below.refl _ _ | apply blw_drew | apply blw_alloc | (refine blw_set ?_ (by first | omega | (simp; done) | (simp; omega)) _) | refine below_chain ?_ (by assumption)))⟩
  rw [h0] at hcon
  obtain ⟨hd, hall⟩ := chkH_pos h0
  have hX1 : isH p0 (sz st0.length) X1 = true := by simp at hall; exact hall
  clear hall
  have hp1 := hd.hp.lo; have hp2 := hd.hp.hi
  cases hid : idemH p0 st0 X1 with
  | false =>
    have e1 : RPeirceDimensions1 p0 st0 X1 = 5 := by unfold RPeirceDimensions1; rw [if_pos h0, if_neg (by rw [hid]; decide)]
    rw [show RPeirceDimensions0 p0 st0 X1 = [] from if_neg (by rw [e1]; decide), e1]; clear e1
    have HI := Lib.hid hid; clear hid
    go_enter Tryz.func9, Tryz.ntmps9
    go_wp2_with fail
    refine hcon.mono ?_; rintro e w1 ⟨rfl, hb1⟩
    rw [← hW] at hb1
    clear hW hcon
    have hx0 := hx0.below hb1; have hx1 := hx1.below hb1; have d00 := kept hb1 d00; have d01 := kept hb1 d01; have d10 := kept hb1 d10; have d11 := kept hb1 d11
    go_wp2_with fail
    refine (idem_c hd hx0 hx1 hX1).mono ?_; rintro e w2 ⟨rfl, hb2⟩
    rw [HI.out]
    go_wp2_with fail
    go_ret2
    exact ⟨_, rfl, .inl ⟨rfl, rfl⟩, (by repeat (first | exact Below.refl _ _ | apply blw_drew | apply blw_alloc | (refine blw_set ?_ (by first | omega | (simp; done) | (simp; omega)) _) | refine below_chain ?_ (by assumption)))⟩
  | true =>
    have e1 : RPeirceDimensions1 p0 st0 X1 = 0 := by unfold RPeirceDimensions1; rw [if_pos h0, if_pos hid]
    rw [show RPeirceDimensions0 p0 st0 X1 = dimsL p0 st0 X1 from if_pos e1, e1]; clear e1
    have HI := Lib.hid hid; clear hid h0
    have hsz := sz_le hd
    have hl3 := hd.hl
    have hrw := fun k => imgL_rw (k := k) hd hX1
    have hil := fun k => imgL_len (p := p0) (st := st0) (E := X1) (k := k)
    have hit := fun (k : Int) (j : Nat) h => imgL_take (p := p0) (st := st0) (E := X1) (k := k) (j := j) h
    have hbase := fun i => baseH_is (p := p0) (n := sz st0.length) (i := i) (by omega)
    have hpei := fun (k : Int) i => peirH_is (k := k) (by omega) hX1 (hbase i)
    have hdb := fun k => dimP_b (k := k) hd hX1
    have hdt := fun (k : Nat) h => dims_take (p := p0) (st := st0) (E := X1) (k := k) h
    have hbr := fun (k : Int) => basis_red hd.hp (hrw k)
    have hszc := fun W => size_c (w := W) (p := p0) (a := a0) (n := st0.length) (c := c0) (by omega)
    have hher := fun W y i (h0 : El W (.slice a0 st0.length c0) st0) (h : El W y (oneL (3 + (sz st0.length + sz st0.length + sz st0.length)) i)) => herm_c (w := W) (p := p0) h0 hl3 rfl h (by rw [oneL_len])
    have hnul := fun (k : Int) i => nums_len (hpei k i)
    obtain ⟨n, hn⟩ : ∃ n, n = sz st0.length := ⟨_, rfl⟩
    simp only [← hn] at hrw hil hit hbase hpei hszc hher hsz hbr hnul
    obtain ⟨D, hD⟩ : ∃ D, D = dimsL p0 st0 X1 := ⟨_, rfl⟩
    have hDl : D.length = 3 := by rw [hD]; rfl
    simp only [← hD] at hdt ⊢
    have HN := Lib.hid hn; have HDL := Lib.hid hDl; have HD := Lib.hid hD
    have HIL := Lib.hid hil; have HIT := Lib.hid hit; have HDT := Lib.hid hdt; have HBR := Lib.hid hbr; have HBS := Lib.hid hbase; have HPE := Lib.hid hpei; have HNL := Lib.hid hnul
    clear hn hDl hD hil hit hdt hbr hbase hpei hnul
    go_enter Tryz.func9, Tryz.ntmps9
    go_wp2_with fail
    refine hcon.mono ?_; rintro e w1 ⟨rfl, hb1⟩
    rw [← hW] at hb1
    clear hW hcon
    have hx0 := hx0.below hb1; have hx1 := hx1.below hb1; have d00 := kept hb1 d00; have d01 := kept hb1 d01; have d10 := kept hb1 d10; have d11 := kept hb1 d11
    go_wp2_with fail
    refine (idem_c hd hx0 hx1 hX1).mono ?_; rintro e w2 ⟨rfl, hb2⟩
    rw [HI.out]
    have hx0 := hx0.below hb2; have hx1 := hx1.below hb2; have d00 := kept hb2 d00; have d01 := kept hb2 d01; have d10 := kept hb2 d10; have d11 := kept hb2 d11
    have hbw := below_chain hbW (below_chain hb1 hb2)
    clear hb1 hb2 hbW gl
    go_wp2_with fail
    have hbA : Below w2.heap.size w2 (w2.alloc (.cells #[] 2)) := (by repeat (first | exact Below.refl _ _ | apply blw_drew | apply blw_alloc | (refine blw_set ?_ (by first | omega | (simp; done) | (simp; omega)) _) | refine below_chain ?_ (by assumption)))
    go_loopw [7, 24] (fun o i wr => ∃ (k g cap : Nat), k ≤ 3 ∧ i = .int .i64 k ∧ o = .slice (some ⟨g, 0, none⟩) k cap ∧ OwnI wr w2.heap.size g k cap (D.take k) ∧ Below w2.heap.size w2 wr)
      (fun _ i _ => 3 - (intOf i).toNat)
    case atStart => exact ⟨0, w2.heap.size, 0, by omega, rfl, rfl, OwnI.new (Nat.le_refl _), hbA⟩
    case round =>
      clear hbA
      obtain ⟨k, g, cap, hk, rfl, rfl, hown, hbr⟩ := hrel
      by_cases hk3 : k < 3
      · have hx0 := hx0.below hbr; have hx1 := hx1.below hbr; have d00 := kept hbr d00; have d01 := kept hbr d01; have d10 := kept hbr d10; have d11 := kept hbr d11
        generalize wr = wo at *
        have HX0 := Lib.hid hx0; have HX1 := Lib.hid hx1; have D0 := Lib.hid d00; have D1 := Lib.hid d01; have D2 := Lib.hid d10; have D3 := Lib.hid d11; have HOW := Lib.hid hown
        have hbB : Below wo.heap.size wo (wo.alloc (.cells #[] 22)) := (by repeat (first | exact Below.refl _ _ | apply blw_drew | apply blw_alloc | (refine blw_set ?_ (by first | omega | (simp; done) | (simp; omega)) _) | refine below_chain ?_ (by assumption)))
        have hx0 := hx0.below hbB; have hx1 := hx1.below hbB; have d00 := kept hbB d00; have d01 := kept hbB d01; have d10 := kept hbB d10; have d11 := kept hbB d11
        have hI0 : OwV (wo.alloc (.cells #[] 22)) w2.heap.size (.slice (some ⟨wo.heap.size, 0, none⟩) 0 0) [] := OwV.new hbr.size
        have hoz : wo.heap.size < (wo.alloc (.cells #[] 22)).heap.size := by simp
        go_wp2_with fail
        refine (hszc _).mono ?_; rintro e w3 ⟨rfl, hb3⟩
        have hx0 := hx0.below hb3; have hx1 := hx1.below hb3; have d00 := kept hb3 d00; have d01 := kept hb3 d01; have d10 := kept hb3 d10; have d11 := kept hb3 d11; have hI0 := hI0.below hb3
        go_wp2_with fail
        rw [show (3 : Int) + 3 * (n : Int) = ((3 + (n + n + n) : Nat) : Int) by omega]
        refine (unit_c (n := 3 + (n + n + n)) (by omega)).mono ?_; rintro e w4 ⟨v, uu, rfl, hU, hRA, hform, hb4⟩
        obtain ⟨gu, cu, rfl⟩ := hform (by omega)
        have hV : RowsF w4 w3.heap.size uu ((List.range (3 + (n + n + n))).map (oneL (3 + (n + n + n)))) := ⟨hRA.1, hRA.2.1⟩
        have hul := hU.form
        have hgu := (hU.lt gu rfl).1
        have hx0 := hx0.below hb4; have hx1 := hx1.below hb4; have d00 := kept hb4 d00; have d01 := kept hb4 d01; have d10 := kept hb4 d10; have d11 := kept hb4 d11; have hI0 := hI0.below hb4
        have hbo : Below wo.heap.size wo w4 := below_chain hbB (below_chain hb3 hb4)
        have hne0 : wo.heap.size ≠ gu := by have := hb3.size; omega
        have HV := Lib.hid hRA; have HF := Lib.hid hform; have HUL := Lib.hid hul
        clear hRA hform hbB hb3 hul hoz
        go_wp2_with fail
        go_loopw [9, 34] (fun o i wr => ∃ (j g2 cap2 : Nat) (us2 : List Value), j ≤ 3 + (n + n + n) ∧ i = .int .i64 j ∧ o = .slice (some ⟨g2, 0, none⟩) us2.length cap2 ∧ us2.length = j ∧ OwV wr w2.heap.size (.slice (some ⟨g2, 0, none⟩) us2.length cap2) us2 ∧ RowsF wr w2.heap.size us2 ((imgL p0 st0 X1 k).take j) ∧
            OwV wr w3.heap.size (.slice (some ⟨gu, 0, none⟩) (3 + (n + n + n)) cu) uu ∧ RowsF wr w3.heap.size uu ((List.range (3 + (n + n + n))).map (oneL (3 + (n + n + n)))) ∧ g2 ≠ gu ∧ wo.heap.size ≤ g2 ∧ Below wo.heap.size wo wr)
          (fun _ i _ => 3 + (n + n + n) - (intOf i).toNat)
        case atStart => exact ⟨0, wo.heap.size, 0, [], Nat.zero_le _, rfl, rfl, rfl, hI0, RowsF.nil _ _, hU, hV, hne0, Nat.le_refl _, hbo⟩
        case round =>
          clear hI0 hU hV hne0
          obtain ⟨j, g2, cap2, us2, hj, rfl, rfl, hul, hI, hR, hU, hV, hng, hg2, hb5⟩ := hrel
          have HJ := Lib.hid hul; clear hul
          have hx0 := (HX0.out).below hb5; have hx1 := (HX1.out).below hb5; have d00 := kept hb5 D0.out; have d01 := kept hb5 D1.out; have d10 := kept hb5 D2.out; have d11 := kept hb5 D3.out
          have hown := HOW.out.below hb5
          by_cases hlt : j < 3 + (n + n + n)
          · obtain ⟨gj, cj, _, hcj, hfj, _⟩ := row_at (p := p0) (m := 3 + (n + n + n)) hU hV (fun r hr => by obtain ⟨i, _, rfl⟩ := List.mem_map.1 hr; exact Ev.one (by omega)) (j := j) (by simp; omega)
            have hjr : ((List.range (3 + (n + n + n))).map (oneL (3 + (n + n + n)))).getD j [] = oneL (3 + (n + n + n)) j := by simp [List.getD_eq_getElem?_getD, hlt]
            rw [hjr] at hfj
            have HT := Lib.hid (HIT.out (k : Int) j hlt)
            have hY := HPE.out (k : Int) j
            have hYl := HNL.out (k : Int) j
            have hB := HBS.out j
            have hhj := fun W y h0 h => hher W y j h0 h
            rw [show Her.mk ((oneL (3 + (n + n + n)) j).take 3) [(((oneL (3 + (n + n + n)) j).drop 3).drop 0).take n, (((oneL (3 + (n + n + n)) j).drop 3).drop n).take n, (((oneL (3 + (n + n + n)) j).drop 3).drop (n + n)).take n] = baseH n j from rfl] at hhj
            obtain ⟨bj, hbj⟩ : ∃ bj, bj = baseH n j := ⟨_, rfl⟩
            simp only [← hbj] at hhj hB hY hYl HT
            have HYL := Lib.hid hYl
            have hB2 : isH p0 (sz st0.length) bj = true := by rw [← HN.out]; exact hB
            clear hYl hbj hjr
            go_wp2_with fail
            go_wp2_with fail
            refine region_flow [(false, [(0, 0), (1, 1), (2, 1), (3, 1), (4, 0), (6, 0), (5, 5)]), (false, [(7, 4), (8, 4), (9, 4), (10, 4), (11, 0)])] (by kernel_rfl) ?_
            refine norm_K fun K hK => ?_
            change wpList _ _ _ [_, _, _, _, _, _, _] _ _
            have hb21 : Below wr.heap.size wr wr.drew := (by repeat (first | exact Below.refl _ _ | apply blw_drew | apply blw_alloc | (refine blw_set ?_ (by first | omega | (simp; done) | (simp; omega)) _) | refine below_chain ?_ (by assumption)))
            have hI := hI.below hb21; have hR := hR.below hb21; have hU := hU.below hb21; have hV := hV.below hb21; have hx0 := hx0.below hb21; have hx1 := hx1.below hb21; have d00 := kept hb21 d00; have d01 := kept hb21 d01; have d10 := kept hb21 d10; have d11 := kept hb21 d11; have hfj := hfj.below hb21
            generalize wr.drew = wq at *
            go_wp2_with fail
            refine (hhj _ _ hx0 hfj.el).mono ?_; rintro e w22 ⟨v1, rfl, h1, hb22⟩
            have hI := hI.below hb22; have hR := hR.below hb22; have hU := hU.below hb22; have hV := hV.below hb22; have hx0 := hx0.below hb22; have hx1 := hx1.below hb22; have d00 := kept hb22 d00; have d01 := kept hb22 d01; have d10 := kept hb22 d10; have d11 := kept hb22 d11; have hfj := hfj.below hb22
            go_wp2_with fail
            have hz0 : Below wq.heap.size wq w22 := (by repeat (first | exact Below.refl _ _ | apply blw_drew | apply blw_alloc | (refine blw_set ?_ (by first | omega | (simp; done) | (simp; omega)) _) | refine below_chain ?_ (by assumption)))
            first | (refine hK _ _ ⟨hz0, ?_⟩; clear hK K) | refine ⟨hz0, ?_⟩
            clear hz0
            refine norm_K fun K hK => ?_
            change wpList _ _ _ [_, _, _, _, _] _ _
            go_wp2_with fail
            refine (peirce_c (k := k) hd hx0 hx1 hX1 h1.hv hB2).mono ?_; rintro e w23 ⟨v2, rfl, h2, hb23⟩
            have hI := hI.below hb23; have hR := hR.below hb23; have hU := hU.below hb23; have hV := hV.below hb23; have hx0 := hx0.below hb23; have hx1 := hx1.below hb23; have d00 := kept hb23 d00; have d01 := kept hb23 d01; have d10 := kept hb23 d10; have d11 := kept hb23 d11; have hfj := hfj.below hb23; have h1 := h1.below hb23
            go_wp2_with fail
            refine (nums_c h2.hv hY (by omega) (by omega)).mono ?_; rintro e w24 ⟨v3, rfl, h3, hb24⟩
            have hI := hI.below hb24; have hR := hR.below hb24; have hU := hU.below hb24; have hV := hV.below hb24; have hx0 := hx0.below hb24; have hx1 := hx1.below hb24; have d00 := kept hb24 d00; have d01 := kept hb24 d01; have d10 := kept hb24 d10; have d11 := kept hb24 d11; have hfj := hfj.below hb24; have h1 := h1.below hb24; have h2 := h2.below hb24
            have hbw5 : Below wo.heap.size wo w24 := (by repeat (first | exact Below.refl _ _ | apply blw_drew | apply blw_alloc | (refine blw_set ?_ (by first | omega | (simp; done) | (simp; omega)) _) | refine below_chain ?_ (by assumption)))
            obtain ⟨g3, cap3, rfl, _⟩ := id h3
            rw [HYL.out] at h3 ⊢
            have hz24 : w2.heap.size ≤ w23.heap.size := by have := hbr.size; have := hb5.size; have := hb21.size; have := hb22.size; have := hb23.size; omega
            have h4 := h3.more (B' := w2.heap.size) hz24
            have hguz := (hU.lt gu rfl).2
            have hw24 : w2.heap.size ≤ w24.heap.size := by have := hb24.size; omega
            go_wp2_with (at_builtin; refine appr_one rfl _ _ rfl w24 w2.heap.size w24.heap.size rfl (.slice (some ⟨g2, 0, none⟩) us2.length cap2) us2 rfl (.slice (some ⟨g3, 0, none⟩) (3 + (n + n + n)) cap3) 1 rfl rfl hI hw24 (by have := HJ.out; omega) ?_; intro g' cap' w' ho' hb' hg' hge)
            first | (refine hK _ _ ⟨rfl, ?_⟩; clear hK K) | refine ⟨rfl, ?_⟩
            go_wp2_with fail
            have hU' := hU.kept hg' (.inr (fun e => hng (Option.some.inj e).symm))
            have hng' : g' ≠ gu := by
              rcases hge with e | e
              · have e2 : g2 = g' := Option.some.inj e
                omega
              · omega
            have hg2' : wo.heap.size ≤ g' := by
              have := hbw5.size
              rcases hge with e | e
              · have e2 : g2 = g' := Option.some.inj e
                omega
              · omega
            go_roundw
            case rel => exact ⟨j + 1, g', cap', us2 ++ [.slice (some ⟨g3, 0, none⟩) (3 + (n + n + n)) cap3], by omega, by go_num, by simp, by simp [HJ.out], by simpa using ho', by rw [HT.out]; exact (hR.app hI hg').snoc (h4.app hI hg'), hU', hV.app hI hg', hng', hg2', blw_grown hbw5 hg' hg2⟩
            case measure => simp [intOf]; omega
          · obtain rfl : j = 3 + (n + n + n) := by omega
            rw [take_all (by rw [HIL.out]; exact Nat.le_refl _)] at hR
            have hre := hR.re hI
            have hLn : (imgL p0 st0 X1 k).length ≤ 100000 := by rw [HIL.out]; omega
            have hlen2 : us2.length ≤ 100 := by have := HJ.out; omega
            have hbc := fun W y (h : Re W y (imgL p0 st0 X1 k)) => basis_c (w := W) hd.hp (hrw k) h (by omega) (by omega) hLn
            rw [HBR.out k] at hbc
            have hdk := hdb k
            obtain ⟨Rd, hRd⟩ : ∃ Rd, Rd = redL p0 (imgL p0 st0 X1 k) := ⟨_, rfl⟩
            have hdim : dimP p0 st0 X1 k = (Rd.length : Int) := by rw [hRd]; rfl
            simp only [← hRd] at hbc
            rw [hdim] at hdk
            have HT := Lib.hid (HDT.out k hk3); have HDM := Lib.hid hdim
            clear hRd hdim
            generalize wr = wp at *
            go_wp2_with fail
            refine dfield_c.mono ?_; rintro e w5 ⟨rfl, hb6⟩
            have hre := hre.below hb6; have hown := hown.below hb6
            go_wp2_with fail
            refine (hbc _ _ hre).mono ?_; rintro e w6 ⟨v, rfl, hv, hb7⟩
            have hown := hown.below hb7
            obtain ⟨av, cv, rfl, _⟩ := id hv
            have hbx : Below w2.heap.size w2 w6 := below_chain hbr (below_chain hb5 (below_chain hb6 hb7))
            clear hv hre hb6 hb7
            go_wp2_with fail
            refine (lengthr_c (by omega)).mono ?_; rintro e w7 ⟨rfl, rfl⟩
            go_wp2_with (at_builtin; refine app_one rfl _ _ rfl w6 w2.heap.size g k cap _ rfl (Rd.length : Int) _ rfl hown hbx.size (by omega) ?_; intro g' cap' w' hown' hb' hg' hgg)
            go_roundw
            case rel => exact ⟨k + 1, g', cap', by omega, by go_num, rfl, by rw [HT.out, HDM.out]; exact hown', hbx.trans hb'⟩
            case measure => simp [intOf]; omega
      · obtain rfl : k = 3 := by omega
        have e3 : D.take 3 = D := take_all (by rw [HDL.out]; exact Nat.le_refl _)
        rw [e3] at hown
        have HE3 := Lib.hid e3; clear e3
        go_wp2_with fail
        go_ret2
        exact ⟨_, rfl, (hown.fr.more hbw.size).ow (Nat.le_refl _), below_chain hbw hbr⟩
end Go.Proofs.YtmplpoccalccoaaGreat
