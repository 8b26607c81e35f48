/-
  The local triples' basis by the reference: the walk.
-/
import Derived.Test.YtfcdhdkhfdhjfaaJbi
import Derived.Test.YtfcdhdkhfdhjfaaKeC
namespace Go.Proofs.Ytfcdhdkhfdhjfaa
open Go.RowKit

set_option maxHeartbeats 16000000 in
set_option maxRecDepth 100000 in
theorem sbasis15_c {p : Int} {s : Value} {st : List Int} {w : World} (hd : Dok p st) (hs : El w s st) :
    Calls Try.prog 20 #[.agg #[.int .i64 p, s]] w fun e w' => ∃ v, e = .returned v ∧ Re w' v (locN p st) ∧ Below w.heap.size w w' := by
  have hp1 := hd.hp.lo; have hp2 := hd.hp.hi; have hl3 := hd.hl; have hsz := sz_le hd
  obtain ⟨a0, c0, rfl, _⟩ := id hs.op
  have hdl := diagF_len (p := p) (st := st)
  have hDb := fun i => dgN_fp (p := p) (st := st) (by omega) i
  have hszc := fun W => ssize_c (w := W) (p := p) (a := a0) (n := st.length) (c := c0) (by omega)
  have hfrm := fun W b off c i j k h hT hi hj hk => sform_c (w := W) (b := b) (off := off) (c := c) (i := i) (j := j) (k := k) (p := p) (s := .slice a0 st.length c0) hd h rfl hT hi hj hk
  have hfb := fun i j k => formF_fp (p := p) (st := st) (i := i) (j := j) (k := k) hd
  have hxor := fun (i j : Nat) (hi : i < sz st.length) (hj : j < sz st.length) => xor_lt (st := st) hi hj
  have hbl : (basL p st).length = sz st.length := by unfold basL; simp
  have hbw : ∀ r ∈ basL p st, r.length = sz st.length := fun r hr => by
    unfold basL at hr
    obtain ⟨i, _, rfl⟩ := List.mem_map.1 hr
    simp
  have hbg := fun i hi k hk => bas_get (p := p) (st := st) (i := i) (k := k) hi hk
  have hker := locN_ref hd
  have hrw := locR_rw hd
  unfold locR at hker hrw
  obtain ⟨LN, hLN⟩ : ∃ x, x = locN p st := ⟨_, rfl⟩
  rw [← hLN] at hker ⊢
  obtain ⟨G, hG⟩ : ∃ G, G = formF p st := ⟨_, rfl⟩
  simp only [← hG] at hfrm hfb hker hrw
  obtain ⟨FB, hFB⟩ : ∃ F, F = basF p st := ⟨_, rfl⟩
  simp only [← hFB] at hfrm hbg
  obtain ⟨D, hD_⟩ : ∃ D : Nat → Int, D = dgN p st := ⟨_, rfl⟩
  have hDe : ∀ i, (diagF p st).getD i 0 = D i := fun i => by rw [hD_]; rfl
  rw [← hD_] at hker hrw
  simp only [← hD_] at hDb
  obtain ⟨n, hn⟩ : ∃ n, n = sz st.length := ⟨_, rfl⟩
  simp only [← hn] at hsz hszc hdl hfrm hxor hbl hbw hbg hker hrw ⊢
  have HDL := Lib.hid hdl; have HDE := Lib.hid hDe; have HDB := Lib.hid hDb; have HFB := Lib.hid hfb
  have HBB := Lib.hid hbl; have HBW := Lib.hid hbw; have HBG := Lib.hid hbg; have HXR := Lib.hid hxor; have HKR := Lib.hid (And.intro hker hrw)
  clear hn hdl hDe hDb hfb hG hFB hD_ hbl hbw hbg hxor hker hrw hLN
  have hnn := prod_b (a := n) (b := n) (A := 8) (B := 8) (by omega) (by omega)
  have h3n : 0 ≤ 3 * (n : Int) ∧ 3 * (n : Int) ≤ 24 := by omega
  have h2n : 0 ≤ 2 * (n : Int) ∧ 2 * (n : Int) ≤ 16 := by omega
  obtain ⟨L, hL⟩ : ∃ L, L = 3 * n * n := ⟨_, rfl⟩
  have hLi : 3 * (n : Int) * (n : Int) = ((L : Nat) : Int) := by rw [hL, Int.natCast_mul, Int.natCast_mul]; rfl
  have h2i : 0 ≤ 2 * (n : Int) * (n : Int) ∧ 2 * (n : Int) * (n : Int) ≤ 128 := by rw [Int.mul_assoc]; omega
  have hLb : 1 ≤ L ∧ L ≤ 192 := by
    rw [hL, Nat.mul_assoc]
    have h1 := Nat.mul_le_mul hsz.2 hsz.2
    have h2 := Nat.mul_le_mul hsz.1 hsz.1
    omega
  have HL := Lib.hid hL; have HLI := Lib.hid hLi
  clear hL hLi
  go_enter Try.func20, Try.ntmps20
  have hb0 : Below w.heap.size w (w.alloc (.cells #[.int .i64 p, .slice a0 st.length c0] 32)) := (by repeat (first | exact .refl _ _ | apply bwD | apply bwA | (refine bwS ?_ (by first | omega | simp <;> omega) _) | refine bwC ?_ (by assumption)))
  have hs := hs.below hb0
  have d0 : (w.alloc (.cells #[.int .i64 p, .slice a0 st.length c0] 32)).cell? ⟨w.heap.size, 0, none⟩ = some (.int .i64 p) := by simp [go_sem]
  have d1 : (w.alloc (.cells #[.int .i64 p, .slice a0 st.length c0] 32)).cell? ⟨w.heap.size, 1, none⟩ = some (.slice a0 st.length c0) := by simp [go_sem]
  go_wp2_with fail
  refine region_flow [(false, [(0, 1), (2, 1), (4, 1), (1, 5)]), (false, [(3, 5)]), (false, [(5, 4), (6, 0), (7, 0), (8, 0)])] (by kernel_rfl) ?_
  refine norm_K fun K hK => ?_
  change wpList _ _ _ [_, _, _, _] _ _
  have hb1 : Below (w.alloc (.cells #[.int .i64 p, .slice a0 st.length c0] 32)).heap.size (w.alloc (.cells #[.int .i64 p, .slice a0 st.length c0] 32)) (w.alloc (.cells #[.int .i64 p, .slice a0 st.length c0] 32)).drew := (by repeat (first | exact .refl _ _ | apply bwD | apply bwA | (refine bwS ?_ (by first | omega | simp <;> omega) _) | refine bwC ?_ (by assumption)))
  have hs := hs.below hb1; have d0 := kept hb1 d0; have d1 := kept hb1 d1
  generalize (w.alloc (.cells #[.int .i64 p, .slice a0 st.length c0] 32)).drew = wq at *
  go_wp2_with fail
  refine (sbas_c hd hs).mono ?_; rintro e w2 ⟨vb, rfl, hT0, hb2⟩
  have hs := hs.below hb2; have d0 := kept hb2 d0; have d1 := kept hb2 d1
  go_wp2_with fail
  have hz0 : Below wq.heap.size wq w2 := (by repeat (first | exact .refl _ _ | apply bwD | apply bwA | (refine bwS ?_ (by first | omega | simp <;> omega) _) | refine bwC ?_ (by assumption)))
  first | (refine hK _ _ ⟨hz0, ?_⟩; clear hK K) | refine ⟨hz0, ?_⟩
  clear hz0
  refine norm_K fun K hK => ?_
  change wpList _ _ _ [_] _ _
  go_wp2_with fail
  refine (hszc _).mono ?_; rintro e w3 ⟨rfl, hb3⟩
  have hs := hs.below hb3; have d0 := kept hb3 d0; have d1 := kept hb3 d1; have hT0 := hT0.below hb3
  go_wp2_with fail
  have hz1 : Below wq.heap.size wq w3 := (by repeat (first | exact .refl _ _ | apply bwD | apply bwA | (refine bwS ?_ (by first | omega | simp <;> omega) _) | refine bwC ?_ (by assumption)))
  first | (refine hK _ _ ⟨hz1, ?_⟩; clear hK K) | refine ⟨hz1, ?_⟩
  clear hz1
  refine norm_K fun K hK => ?_
  change wpList _ _ _ [_, _, _, _] _ _
  go_wp2_with fail
  refine (sdiag_c hd hs).mono ?_; rintro e w4 ⟨vd, rfl, hD, hb4⟩
  have hs := hs.below hb4; have d0 := kept hb4 d0; have d1 := kept hb4 d1; have hT0 := hT0.below hb4
  obtain ⟨gd, kd, rfl, hDo⟩ := id hD
  go_wp2_with fail
  first | (refine hK _ _ ⟨rfl, ?_⟩; clear hK K) | refine ⟨rfl, ?_⟩
  rw [HDL.out] at hDo ⊢
  obtain ⟨bb, ob, cb, rfl, hT1⟩ := Re.tb hT0 HBB.out (by omega) HBW.out
  have hT := hT1.congr (G := FB) (fun i hi k hk => HBG.out i hi k hk)
  have hDc : ∀ i, i < n → w4.cell? ⟨gd, i, none⟩ = some (.int .i64 (D i)) := fun i hi => by
    have := hDo.hold hi
    rw [HDE.out] at this
    exact this
  have HDC := Lib.hid hDc
  have hbx : Below w.heap.size w w4 := (by repeat (first | exact .refl _ _ | apply bwD | apply bwA | (refine bwS ?_ (by first | omega | simp <;> omega) _) | refine bwC ?_ (by assumption)))
  clear hT1 hT0 hD hDo hDc
  generalize w4 = wu at *
  have hI0 : OwV (wu.alloc (.cells #[] 22)) wu.heap.size (.slice (some ⟨wu.heap.size, 0, none⟩) 0 0) [] := OwV.new (Nat.le_refl _)
  have hbA : Below wu.heap.size wu (wu.alloc (.cells #[] 22)) := (by repeat (first | exact .refl _ _ | apply bwD | apply bwA | (refine bwS ?_ (by first | omega | simp <;> omega) _) | refine bwC ?_ (by assumption)))
  go_wp2_with fail
  go_loopw [6, 7] (fun o q wr => ∃ (t g cap : Nat) (us : List Value), t ≤ 3 ∧ q = .int .i64 t ∧ o = .slice (some ⟨g, 0, none⟩) us.length cap ∧ us.length ≤ 1000 * t ∧ OwV wr wu.heap.size (.slice (some ⟨g, 0, none⟩) us.length cap) us ∧ RowsF wr wu.heap.size us (sP n D t) ∧ Below wu.heap.size wu wr) (fun _ q _ => 3 - (intOf q).toNat)
  case atStart => exact ⟨0, wu.heap.size, 0, [], by omega, rfl, rfl, by simp, hI0, RowsF.nil _ _, hbA⟩
  case round =>
    clear hI0 hbA
    obtain ⟨t, g, cap, us, ht3, rfl, rfl, hul, hI, hR, hb⟩ := hrel
    by_cases hlt : t < 3
    · generalize wr = wo at *
      have ht3b : decide ((t : Int) < 3) = true := by rw [decide_eq_true_eq]; omega
      have htn := prod_b (a := t) (b := n) (A := 3) (B := 8) (by omega) (by omega)
      have hR0 : RowsF wo wu.heap.size us (sP n D t ++ sI n D t 0) := by rw [show sI n D t 0 = [] from rfl, List.append_nil]; exact hR
      go_wp2_with fail
      go_loopw [6, 8] (fun o q wr => ∃ (i g cap : Nat) (us : List Value), i ≤ n ∧ q = .int .i64 i ∧ o = .slice (some ⟨g, 0, none⟩) us.length cap ∧ us.length ≤ 1000 * t + 100 * i ∧ OwV wr wu.heap.size (.slice (some ⟨g, 0, none⟩) us.length cap) us ∧ RowsF wr wu.heap.size us (sP n D t ++ sI n D t i) ∧ Below wu.heap.size wu wr) (fun _ q _ => n - (intOf q).toNat)
      case atStart => exact ⟨0, g, cap, us, Nat.zero_le _, rfl, rfl, by omega, hI, hR0, hb⟩
      case round =>
        clear hI hR hR0 hb hul
        obtain ⟨i, g, cap, us, hin, rfl, rfl, hul, hI, hR, hb⟩ := hrel
        by_cases hlt2 : i < n
        · generalize wr = wp at *
          have hR0 : RowsF wp wu.heap.size us (sP n D t ++ sI n D t i ++ sK n D t i 0) := by rw [show sK n D t i 0 = [] from rfl, List.append_nil]; exact hR
          go_wp2_with fail
          go_loopw [6, 9] (fun o q wr => ∃ (k g cap : Nat) (us : List Value), k ≤ i + 1 ∧ q = .int .i64 k ∧ o = .slice (some ⟨g, 0, none⟩) us.length cap ∧ us.length ≤ 1000 * t + 100 * i + k ∧ OwV wr wu.heap.size (.slice (some ⟨g, 0, none⟩) us.length cap) us ∧ RowsF wr wu.heap.size us (sP n D t ++ sI n D t i ++ sK n D t i k) ∧ Below wu.heap.size wu wr) (fun _ q _ => i + 1 - (intOf q).toNat)
          case atStart => exact ⟨0, g, cap, us, Nat.zero_le _, rfl, rfl, by omega, hI, hR0, hb⟩
          case round =>
            clear hI hR hR0 hb hul
            obtain ⟨k, g, cap, us, hkn, rfl, rfl, hul, hI, hR, hb⟩ := hrel
            by_cases hlt3 : k < i + 1
            · as_aux_lemma =>
              have hkn2 : k < n := by omega
              have hkb : decide ((k : Int) ≤ (i : Int)) = true := by rw [decide_eq_true_eq]; omega
              have hpi := prod_b (a := t * n + i) (b := n) (A := 32) (B := 8) (by have := Nat.mul_le_mul (show t ≤ 3 by omega) hsz.2; omega) (by omega)
              have hpk := prod_b (a := t * n + k) (b := n) (A := 32) (B := 8) (by have := Nat.mul_le_mul (show t ≤ 3 by omega) hsz.2; omega) (by omega)
              rw [Int.natCast_add, Int.natCast_mul] at hpi hpk
              have hal := idx_lt (t := t) (a := i) (b := k) (n := n) hlt2 hkn2 hlt
              have hbl := idx_lt (t := t) (a := k) (b := i) (n := n) hkn2 hlt2 hlt
              obtain ⟨a, ha⟩ : ∃ a, a = t * n * n + i * n + k := ⟨_, rfl⟩
              obtain ⟨b, hb_⟩ : ∃ b, b = t * n * n + k * n + i := ⟨_, rfl⟩
              have hai : ((t : Int) * (n : Int) + (i : Int)) * (n : Int) + (k : Int) = ((a : Nat) : Int) := by rw [ha, Int.add_mul]; simp [Int.natCast_add, Int.natCast_mul]
              have hbi : ((t : Int) * (n : Int) + (k : Int)) * (n : Int) + (i : Int) = ((b : Nat) : Int) := by rw [hb_, Int.add_mul]; simp [Int.natCast_add, Int.natCast_mul]
              rw [← ha, ← HL.out] at hal; rw [← hb_, ← HL.out] at hbl
              have hsr : Hid (skewS n D t i k = ((List.replicate L 0).set a (D i)).set b (D k)) := Lib.hid (by unfold skewS zrs; rw [HL.out, ha, hb_])
              have hci := kept hb (HDC.out i hlt2); have hck := kept hb (HDC.out k hkn2)
              have bi := HDB.out i; have bk := HDB.out k
              obtain ⟨x, hx⟩ : ∃ x, x = D i := ⟨_, rfl⟩
              obtain ⟨y, hy⟩ : ∃ y, y = D k := ⟨_, rfl⟩
              rw [← hx] at hci bi hsr; rw [← hy] at hck bk hsr
              have hmk := fun W => run_make_row' (P := Try.prog) 22 2 (.int .i64 0) 8 Try.underlying22 infoI rfl .i64 .i64 L (by omega) (by omega) W
              have hrow := made_set (W := wr) (n := L) (k := a) x (by omega)
              have hnew := made_own (W := wr) (n := L) (by omega)
              have hold := hnew.hold (i := a) hal
              have hfree := hnew.free a
              obtain ⟨z, hz⟩ : ∃ z, z = (List.replicate L (0 : Int)).getD a 0 := ⟨_, rfl⟩
              rw [← hz] at hold
              have HA := Lib.hid ha; have HB_ := Lib.hid hb_; have HX := Lib.hid hx; have HY := Lib.hid hy; have HAI := Lib.hid hai; have HBI := Lib.hid hbi
              clear ha hb_ hx hy hz hnew hbi hai
              have hai := HAI.out; have hbi := HBI.out; have hLi := HLI.out
              have hbM : Below wr.heap.size wr (wr.alloc (.cells (madeCells #[Value.int .i64 0] L) 2)) := (by repeat (first | exact .refl _ _ | apply bwD | apply bwA | (refine bwS ?_ (by first | omega | simp <;> omega) _) | refine bwC ?_ (by assumption)))
              have hcim := kept hbM hci
              go_upto_region 14 with fail
              clear hcim hbM
              have hbS : Below wr.heap.size wr (wr.alloc (.cells ((madeCells #[Value.int .i64 0] L).setIfInBounds a (.int .i64 x)) 2)) := (by repeat (first | exact .refl _ _ | apply bwD | apply bwA | (refine bwS ?_ (by first | omega | simp <;> omega) _) | refine bwC ?_ (by assumption)))
              have hcka := kept hbS hck
              obtain ⟨wa, hwa⟩ : ∃ x_, x_ = wr.alloc (.cells ((madeCells #[Value.int .i64 0] L).setIfInBounds a (.int .i64 x)) 2) := ⟨_, rfl⟩
              rw [← hwa] at hrow hbS hcka ⊢
              clear hwa hold hfree hci hck
              have hcb := hrow.hold (i := b) hbl
              obtain ⟨z2, hz2⟩ : ∃ z, z = ((List.replicate L (0 : Int)).set a x).getD b 0 := ⟨_, rfl⟩
              rw [← hz2] at hcb
              clear hz2
              have hfb := hrow.free b
              have hset := hrow.set (i := b) y
              rw [← hsr.out] at hset
              have hbT : Below wr.heap.size wr (wa.setCell ⟨wr.heap.size, b, none⟩ (.int .i64 y)) := bwS hbS (Nat.le_refl _) _
              have hI2 := hI.below hbT; have hR2 := hR.below hbT
              have hbU := bwC hb hbT
              have hF2 := hset.fr.more (B' := wu.heap.size) hb.size
              have hzz := hbU.size
              go_wp2_with (at_builtin; refine appr_one rfl _ _ rfl (wa.setCell ⟨wr.heap.size, b, none⟩ (.int .i64 y)) wu.heap.size wa.heap.size (by simp [World.setCell]) (.slice (some ⟨g, 0, none⟩) us.length cap) us rfl (.slice (some ⟨wr.heap.size, 0, none⟩) L L) 1 rfl rfl hI2 hzz (by omega) ?_; intro g' cap' w' ho' hb' hg' hge)
              go_roundw
              case rel => exact ⟨k + 1, g', cap', us ++ [.slice (some ⟨wr.heap.size, 0, none⟩) L L], by omega, by go_num, by simp, by simp; omega, by simpa using ho', by rw [sK_succ, ← List.append_assoc]; exact (hR2.app hI2 hg').snoc (hF2.app hI2 hg'), hbU.trans hb'⟩
              case measure => simp [intOf]; omega
            · obtain rfl : k = i + 1 := by omega
              rw [List.append_assoc, ← sI_succ] at hR
              have hkb : decide ((i : Int) + 1 ≤ (i : Int)) = false := by rw [decide_eq_false_iff_not]; omega
              go_wp2_with fail
              go_roundw
              case rel => exact ⟨i + 1, g, cap, us, by omega, by go_num, rfl, by omega, hI, hR, hb⟩
              case measure => simp [intOf]; omega
        · obtain rfl : i = n := by omega
          rw [← sP_succ] at hR
          go_wp2_with fail
          go_roundw
          case rel => exact ⟨t + 1, g, cap, us, by omega, by go_num, rfl, by omega, hI, hR, hb⟩
          case measure => simp [intOf]; omega
    · have et : t = 3 := by omega
      rw [et] at hR hul
      have ht3b : decide ((t : Int) < 3) = false := by rw [decide_eq_false_iff_not]; omega
      clear et
      obtain ⟨S0, hS0⟩ : ∃ S0, S0 = sP n D 3 := ⟨_, rfl⟩
      rw [← hS0] at hR
      have HS0 := Lib.hid hS0; clear hS0
      have hR0 : RowsF wr wu.heap.size us (S0 ++ fI n G 0) := by rw [show fI n G 0 = [] from rfl, List.append_nil]; exact hR
      go_wp2_with fail
      go_loopw [6, 11] (fun o q wr => ∃ (i g cap : Nat) (us : List Value), i ≤ n ∧ q = .int .i64 i ∧ o = .slice (some ⟨g, 0, none⟩) us.length cap ∧ us.length ≤ 3000 + 1000 * i ∧ OwV wr wu.heap.size (.slice (some ⟨g, 0, none⟩) us.length cap) us ∧ RowsF wr wu.heap.size us (S0 ++ fI n G i) ∧ Below wu.heap.size wu wr) (fun _ q _ => n - (intOf q).toNat)
      case atStart => exact ⟨0, g, cap, us, Nat.zero_le _, rfl, rfl, by omega, hI, hR0, hb⟩
      case round =>
        clear hI hR hR0 hb hul
        obtain ⟨i, g, cap, us, hin, rfl, rfl, hul, hI, hR, hb⟩ := hrel
        by_cases hlt : i < n
        · generalize wr = wo at *
          have hR0 : RowsF wo wu.heap.size us (S0 ++ fI n G i ++ fJ n G i 0) := by rw [show fJ n G i 0 = [] from rfl, List.append_nil]; exact hR
          go_wp2_with fail
          go_loopw [6, 12] (fun o q wr => ∃ (j g cap : Nat) (us : List Value), j ≤ n ∧ q = .int .i64 j ∧ o = .slice (some ⟨g, 0, none⟩) us.length cap ∧ us.length ≤ 3000 + 1000 * i + 100 * j ∧ OwV wr wu.heap.size (.slice (some ⟨g, 0, none⟩) us.length cap) us ∧ RowsF wr wu.heap.size us (S0 ++ fI n G i ++ fJ n G i j) ∧ Below wu.heap.size wu wr) (fun _ q _ => n - (intOf q).toNat)
          case atStart => exact ⟨0, g, cap, us, Nat.zero_le _, rfl, rfl, by omega, hI, hR0, hb⟩
          case round =>
            clear hI hR hR0 hb hul
            obtain ⟨j, g, cap, us, hjn, rfl, rfl, hul, hI, hR, hb⟩ := hrel
            by_cases hlt2 : j < n
            · generalize wr = wp at *
              have hR0 : RowsF wp wu.heap.size us (S0 ++ fI n G i ++ fJ n G i j ++ fK n G i j 0) := by rw [show fK n G i j 0 = [] from rfl, List.append_nil]; exact hR
              go_wp2_with fail
              go_loopw [6, 13] (fun o q wr => ∃ (k g cap : Nat) (us : List Value), k ≤ n ∧ q = .int .i64 k ∧ o = .slice (some ⟨g, 0, none⟩) us.length cap ∧ us.length ≤ 3000 + 1000 * i + 100 * j + k ∧ OwV wr wu.heap.size (.slice (some ⟨g, 0, none⟩) us.length cap) us ∧ RowsF wr wu.heap.size us (S0 ++ fI n G i ++ fJ n G i j ++ fK n G i j k) ∧ Below wu.heap.size wu wr) (fun _ q _ => n - (intOf q).toNat)
              case atStart => exact ⟨0, g, cap, us, Nat.zero_le _, rfl, rfl, by omega, hI, hR0, hb⟩
              case round =>
                clear hI hR hR0 hb hul
                obtain ⟨k, g, cap, us, hkn, rfl, rfl, hul, hI, hR, hb⟩ := hrel
                by_cases hlt3 : k < n
                · as_aux_lemma =>
                  have x1 := HXR.out j k hlt2 hlt3; have x2 := HXR.out i k hlt hlt3; have x3 := HXR.out i j hlt hlt2
                  have t1 := xor_bits j (by omega) k (by omega); have t2 := xor_bits i (by omega) k (by omega); have t3 := xor_bits i (by omega) j (by omega)
                  have hfs : Hid (formS n G i j k = ((((List.replicate L 0).set ((j ^^^ k) * n + i) (G (j ^^^ k) j k)).set (n * n + (i ^^^ k) * n + j) (G i (i ^^^ k) k)).set (2 * n * n + (i ^^^ j) * n + k) (G i j (i ^^^ j)))) := Lib.hid (by unfold formS zrs; rw [HL.out])
                  obtain ⟨u, hu⟩ : ∃ u, u = j ^^^ k := ⟨_, rfl⟩
                  obtain ⟨v, hv⟩ : ∃ v, v = i ^^^ k := ⟨_, rfl⟩
                  obtain ⟨q, hq⟩ : ∃ q, q = i ^^^ j := ⟨_, rfl⟩
                  rw [← hu] at x1 t1 hfs; rw [← hv] at x2 t2 hfs; rw [← hq] at x3 t3 hfs
                  clear hu hv hq
                  have l0 := idx_lt (t := 0) (a := u) (b := i) (n := n) x1 hlt (by omega)
                  have l1 := idx_lt (t := 1) (a := v) (b := j) (n := n) x2 hlt2 (by omega)
                  have l2 := idx_lt (t := 2) (a := q) (b := k) (n := n) x3 hlt3 (by omega)
                  rw [show 0 * n * n + u * n + i = u * n + i by simp, ← HL.out] at l0
                  rw [show 1 * n * n + v * n + j = n * n + v * n + j by simp, ← HL.out] at l1
                  rw [← HL.out] at l2
                  have m1 := prod_b (a := u) (b := n) (A := 8) (B := 8) (by omega) (by omega)
                  have m2 := prod_b (a := n + v) (b := n) (A := 16) (B := 8) (by omega) (by omega)
                  have m3 := prod_b (a := 2 * n + q) (b := n) (A := 24) (B := 8) (by omega) (by omega)
                  rw [Int.natCast_add] at m2
                  rw [Int.natCast_add, Int.natCast_mul] at m3
                  obtain ⟨a, ha⟩ : ∃ a, a = u * n + i := ⟨_, rfl⟩
                  obtain ⟨b, hb_⟩ : ∃ b, b = n * n + v * n + j := ⟨_, rfl⟩
                  obtain ⟨c, hc_⟩ : ∃ c, c = 2 * n * n + q * n + k := ⟨_, rfl⟩
                  have hai : (u : Int) * (n : Int) + (i : Int) = ((a : Nat) : Int) := by rw [ha]; simp [Int.natCast_add, Int.natCast_mul]
                  have hbi : ((n : Int) + (v : Int)) * (n : Int) + (j : Int) = ((b : Nat) : Int) := by rw [hb_, Int.add_mul]; simp [Int.natCast_add, Int.natCast_mul]
                  have hci : (2 * (n : Int) + (q : Int)) * (n : Int) + (k : Int) = ((c : Nat) : Int) := by rw [hc_, Int.add_mul]; simp [Int.natCast_add, Int.natCast_mul]
                  rw [← ha] at l0 hfs; rw [← hb_] at l1 hfs; rw [← hc_] at l2 hfs
                  have m3 : 0 ≤ (2 * (n : Int) + (q : Int)) * (n : Int) ∧ (2 * (n : Int) + (q : Int)) * (n : Int) ≤ 192 := m3
                  have h1 := fun W h1 h2 => hfrm W bb ob cb u j k h1 h2 x1 hlt2 hlt3
                  have h2 := fun W h1 h2 => hfrm W bb ob cb i v k h1 h2 hlt x2 hlt3
                  have h3 := fun W h1 h2 => hfrm W bb ob cb i j q h1 h2 hlt hlt2 x3
                  obtain ⟨r1, hr1⟩ : ∃ z, z = G u j k := ⟨_, rfl⟩
                  obtain ⟨r2, hr2⟩ : ∃ z, z = G i v k := ⟨_, rfl⟩
                  obtain ⟨r3, hr3⟩ : ∃ z, z = G i j q := ⟨_, rfl⟩
                  simp only [← hr1, ← hr2, ← hr3] at h1 h2 h3 hfs
                  have HA := Lib.hid ha; have HB_ := Lib.hid hb_; have HC_ := Lib.hid hc_; have HAI := Lib.hid hai; have HBI := Lib.hid hbi; have HCI := Lib.hid hci
                  clear hr1 hr2 hr3 ha hb_ hc_ hai hbi hci
                  have hai := HAI.out; have hbi := HBI.out; have hci := HCI.out; have hLi := HLI.out
                  have hmk := fun W => run_make_row' (P := Try.prog) 22 2 (.int .i64 0) 8 Try.underlying22 infoI rfl .i64 .i64 L (by omega) (by omega) W
                  generalize wr = wv at *
                  have hrow := made_own (W := wv) (n := L) (by omega)
                  have hbN : Below wv.heap.size wv (wv.alloc (.cells (madeCells #[Value.int .i64 0] L) 2)) := (by repeat (first | exact .refl _ _ | apply bwD | apply bwA | (refine bwS ?_ (by first | omega | simp <;> omega) _) | refine bwC ?_ (by assumption)))
                  have hbz := bwC hb hbN
                  have ks := hs.below hbz; have kT := hT.below hbz; have k0 := kept hbz d0; have k1 := kept hbz d1
                  go_wp2_with fail
                  refine (h1 _ ks kT).mono ?_; rintro e w5 ⟨rfl, hb5⟩
                  have hrow := hrow.below hb5; have hbN := bwC hbN hb5
                  clear hbz ks kT k0 k1
                  have hcc := hrow.hold (i := a) (by simpa using l0)
                  have hfc := hrow.free a
                  have hset := hrow.set (i := a) r1
                  have hbS : Below wv.heap.size wv (w5.setCell ⟨wv.heap.size, a, none⟩ (.int .i64 r1)) := bwS hbN (Nat.le_refl _) _
                  have hbz := bwC hb hbS
                  have ks := hs.below hbz; have kT := hT.below hbz; have k0 := kept hbz d0; have k1 := kept hbz d1
                  go_wp2_with fail
                  refine (h2 _ ks kT).mono ?_; rintro e w6 ⟨rfl, hb6⟩
                  have hrow := hset.below hb6; have hbN := bwC hbS hb6
                  clear hbz ks kT k0 k1 hset hbS hcc hfc hb5
                  have hcc := hrow.hold (i := b) (by simpa using l1)
                  have hfc := hrow.free b
                  have hset := hrow.set (i := b) r2
                  have hbS : Below wv.heap.size wv (w6.setCell ⟨wv.heap.size, b, none⟩ (.int .i64 r2)) := bwS hbN (Nat.le_refl _) _
                  have hbz := bwC hb hbS
                  have ks := hs.below hbz; have kT := hT.below hbz; have k0 := kept hbz d0; have k1 := kept hbz d1
                  go_wp2_with fail
                  refine (h3 _ ks kT).mono ?_; rintro e w7 ⟨rfl, hb7⟩
                  have hrow := hset.below hb7; have hbN := bwC hbS hb7
                  clear hbz ks kT k0 k1 hset hbS hcc hfc hb6
                  have hcc := hrow.hold (i := c) (by simpa using l2)
                  have hfc := hrow.free c
                  have hset := hrow.set (i := c) r3
                  rw [← hfs.out] at hset
                  have hbS : Below wv.heap.size wv (w7.setCell ⟨wv.heap.size, c, none⟩ (.int .i64 r3)) := bwS hbN (Nat.le_refl _) _
                  have hI2 := hI.below hbS; have hR2 := hR.below hbS
                  have hbU := bwC hb hbS
                  have hF2 := hset.fr.more (B' := wu.heap.size) hb.size
                  have hzz := hbU.size
                  go_wp2_with (at_builtin; refine appr_one rfl _ _ rfl (w7.setCell ⟨wv.heap.size, c, none⟩ (.int .i64 r3)) wu.heap.size w7.heap.size (by simp [World.setCell]) (.slice (some ⟨g, 0, none⟩) us.length cap) us rfl (.slice (some ⟨wv.heap.size, 0, none⟩) L L) 1 rfl rfl hI2 hzz (by omega) ?_; intro g' cap' w' ho' hb' hg' hge)
                  go_roundw
                  case rel => exact ⟨k + 1, g', cap', us ++ [.slice (some ⟨wv.heap.size, 0, none⟩) L L], by omega, by go_num, by simp, by simp; omega, by simpa using ho', by rw [fK_succ, ← List.append_assoc]; exact (hR2.app hI2 hg').snoc (hF2.app hI2 hg'), hbU.trans hb'⟩
                  case measure => simp [intOf]; omega
                · obtain rfl : k = n := by omega
                  rw [List.append_assoc, ← fJ_succ] at hR
                  go_wp2_with fail
                  go_roundw
                  case rel => exact ⟨j + 1, g, cap, us, by omega, by go_num, rfl, by omega, hI, hR, hb⟩
                  case measure => simp [intOf]; omega
            · obtain rfl : j = n := by omega
              rw [List.append_assoc, ← fI_succ] at hR
              go_wp2_with fail
              go_roundw
              case rel => exact ⟨i + 1, g, cap, us, by omega, by go_num, rfl, by omega, hI, hR, hb⟩
              case measure => simp [intOf]; omega
        · obtain rfl : i = n := by omega
          have hk0 := kept hb d0
          have hLi := HLI.out
          have hre : Re wr (.slice (some ⟨g, 0, none⟩) us.length cap) (refL i D G) := by
            have h := hR.re (by simpa using hI)
            unfold refL; rw [← HS0.out]; exact h
          have hlen : (refL i D G).length = us.length := by
            have h := hR.1
            unfold refL; rw [← HS0.out]; exact h.symm
          have hrw := HKR.out.2
          rw [← HL.out] at hrw
          go_wp2_with fail
          refine (skernel_c (m := L) hd.hp hrw hre (by omega) (by omega) (by rw [hlen]; omega)).mono ?_; rintro e w9 ⟨v9, rfl, hv9, hb9⟩
          rw [HL.out, HKR.out.1] at hv9
          go_wp2_with fail
          go_ret
          exact ⟨v9, rfl, hv9, bwC hbx (bwC hb hb9)⟩
end Go.Proofs.Ytfcdhdkhfdhjfaa
