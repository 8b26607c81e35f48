/-
  Sums of matrices: the reference's.
-/
import Derived.Test.YtgcelfnjijhmkaaGreatHcS
import Derived.Test.YtgcelfnjijhmkaaGreatHcR
namespace Go.Proofs.YtgcelfnjijhmkaaGreat
open Go.RowKit

def sumR (p : Int) (xss : List (List Int)) (k : Int) (yss : List (List Int)) : List (List Int) := List.zipWith (fun x y => plusL p x y k) xss yss
theorem sumR_take {p k : Int} : ∀ {xss yss : List (List Int)} {m : Nat} (h : m < xss.length) (h' : m < yss.length), sumR p (xss.take (m + 1)) k (yss.take (m + 1)) = sumR p (xss.take m) k (yss.take m) ++ [plusL p xss[m] yss[m] k]
  | x :: xs, y :: ys, 0, _, _ => rfl
  | x :: xs, y :: ys, m + 1, h, h' => by
    have := sumR_take (p := p) (k := k) (xss := xs) (yss := ys) (m := m) (by simpa using h) (by simpa using h')
    simp only [sumR, List.take_succ_cons, List.zipWith_cons_cons, List.getElem_cons_succ] at this ⊢
    rw [this]; rfl
set_option maxHeartbeats 1000000 in
set_option maxRecDepth 100000 in
theorem sl15_c {p k : Int} {x y : Value} {xss yss : List (List Int)} {n : Nat} {w : World} (hp : 1 ≤ p) (hp2 : p ≤ 1000) (hk1 : -1000000 ≤ k) (hk2 : k ≤ 1000000) (hx : Re w x xss) (hy : Re w y yss)
    (hX : ∀ xs ∈ xss, Ev p n xs) (hY : ∀ xs ∈ yss, Ev p n xs) (hl : yss.length = xss.length) (hn : n ≤ 1000) (hm : xss.length ≤ 1000) :
    Calls Tryz.prog 127 #[.int .i64 p, x, .int .i64 k, y] w fun e w' => ∃ v us, e = .returned v ∧ OwV w' w.heap.size v us ∧ RowsA w' w.heap.size us (sumR p xss k yss) ∧ (0 < xss.length → ∃ g cap, v = .slice (some ⟨g, 0, none⟩) us.length cap) ∧ Below w.heap.size w w' := by
  obtain ⟨a, c, rfl, h1, h2, hx⟩ := hx
  obtain ⟨a2, c2, rfl, h3, h4, hy⟩ := hy
  rcases hx with rfl | ⟨b, off, rfl, hx⟩
  · obtain rfl : yss = [] := List.length_eq_zero_iff.1 hl
    go_enter Tryz.func127, Tryz.ntmps127
    go_wp2
    refine wp_loop_rounds 1 ?_; rw [rounds_succ]
    go_wp2
    go_ret
    exact ⟨_, [], rfl, OwV.new (Nat.le_refl _), RowsA.nil _ _, fun h => by simp at h, (by repeat (first | exact .refl _ _ | apply bwD | apply bwA | (refine bwS ?_ (by first | omega | simp <;> omega) _) | refine bwC ?_ (by assumption)))⟩
  rcases hy with rfl | ⟨b2, off2, rfl, hy⟩
  · obtain rfl : xss = [] := List.length_eq_zero_iff.1 hl.symm
    go_enter Tryz.func127, Tryz.ntmps127
    go_wp2
    refine wp_loop_rounds 1 ?_; rw [rounds_succ]
    go_wp2
    go_ret
    exact ⟨_, [], rfl, OwV.new (Nat.le_refl _), RowsA.nil _ _, fun h => by simp at h, (by repeat (first | exact .refl _ _ | apply bwD | apply bwA | (refine bwS ?_ (by first | omega | simp <;> omega) _) | refine bwC ?_ (by assumption)))⟩
  have HL := Lib.hid hl
  have HX := Lib.hid hx; have HY := Lib.hid hy
  have hst := fun m h h' => sumR_take (p := p) (k := k) (xss := xss) (yss := yss) (m := m) h h'
  have HST := Lib.hid hst
  clear hst hx hy hl
  go_enter Tryz.func127, Tryz.ntmps127
  go_wp2
  go_loopw [9, 10] (fun o i wr => ∃ (m g cap : Nat) (us : List Value), m ≤ xss.length ∧ i = .int .i64 m ∧ o = .slice (some ⟨g, 0, none⟩) m cap ∧ us.length = m ∧ OwV wr w.heap.size (.slice (some ⟨g, 0, none⟩) m cap) us ∧ RowsA wr w.heap.size us (sumR p (xss.take m) k (yss.take m)) ∧ Below w.heap.size w wr)
    (fun _ i _ => xss.length - (intOf i).toNat)
  case atStart => exact ⟨0, w.heap.size, 0, [], Nat.zero_le _, rfl, rfl, rfl, OwV.new (Nat.le_refl _), RowsA.nil _ _, (by repeat (first | exact .refl _ _ | apply bwD | apply bwA | (refine bwS ?_ (by first | omega | simp <;> omega) _) | refine bwC ?_ (by assumption)))⟩
  case round =>
    obtain ⟨m, g, cap, us, hm', rfl, rfl, hul, ho, hr, hb⟩ := hrel
    have HU := Lib.hid hul; clear hul
    by_cases hlt : m < xss.length
    · have hlt2 : m < yss.length := by rw [HL.out]; exact hlt
      obtain ⟨u1, hc1, he1⟩ := HX.out m hlt
      obtain ⟨u2, hc2, he2⟩ := HY.out m hlt2
      have hs := HST.out m hlt hlt2
      have ex := hX _ (List.getElem_mem hlt)
      have ey := hY _ (List.getElem_mem hlt2)
      obtain ⟨xs, hxs⟩ : ∃ q, q = xss[m] := ⟨_, rfl⟩
      obtain ⟨ys, hys⟩ : ∃ q, q = yss[m] := ⟨_, rfl⟩
      rw [← hxs, ← hys] at hs
      rw [← hxs] at he1 ex
      rw [← hys] at he2 ey
      clear hxs hys
      have e1 := Lib.hid ex.1; have e2 := Lib.hid ey.1
      have sx := ex.sm (M := 1000000) (by omega) (by omega)
      have sy := ey.sm (M := 1000000) (by omega) (by omega)
      have LS := Lib.hid (scaleL_len (p := p) (xs := ys) (k := k))
      have SS := (scaleL_fp (p := p) (xs := ys) (k := k) hp).sm (M := 1000000) (by omega) (by omega)
      have HS := Lib.hid hs
      have hps := Lib.hid (plus_scale (p := p) (k := k) (xs := xs) (ys := ys))
      clear hs ex ey
      obtain ⟨a3, c3, rfl, _⟩ := he1.op
      obtain ⟨a4, c4, rfl, _⟩ := he2.op
      have hc1 := kept hb hc1; have hc2 := kept hb hc2; have he1 := he1.below hb; have he2 := he2.below hb
      go_wp2_with fail
      go_wp2_with fail
      refine region_flow [(false, [(0, 0), (1, 0), (2, 0), (3, 0), (4, 0), (5, 1), (6, 0), (7, 0), (8, 0), (9, 0), (10, 0), (11, 1), (12, 5)]), (false, [(13, 4), (14, 4), (15, 4), (16, 0)])] (by kernel_rfl) ?_
      refine norm_K fun K hK => ?_
      change wpList _ _ _ [_, _, _, _, _, _, _, _, _, _, _, _, _] _ _
      have hb21 : Below wr.heap.size wr wr.drew := (by repeat (first | exact .refl _ _ | apply bwD | apply bwA | (refine bwS ?_ (by first | omega | simp <;> omega) _) | refine bwC ?_ (by assumption)))
      have hc1 := kept hb21 hc1; have hc2 := kept hb21 hc2; have he1 := he1.below hb21; have he2 := he2.below hb21; have ho := ho.below hb21; have hr := hr.below hb21
      generalize wr.drew = wq at *
      go_wp2_with fail
      refine (sscale_c (k := k) hp hp2 hk1 hk2 he2.sl sy (by rw [e2.out]; omega)).mono ?_; rintro e w22 ⟨z1, rfl, f1, hb22⟩
      have hc1 := kept hb22 hc1; have hc2 := kept hb22 hc2; have he1 := he1.below hb22; have he2 := he2.below hb22; have ho := ho.below hb22; have hr := hr.below hb22
      go_wp2_with fail
      have hz0 : Below wq.heap.size wq w22 := (by repeat (first | exact .refl _ _ | apply bwD | apply bwA | (refine bwS ?_ (by first | omega | simp <;> omega) _) | refine bwC ?_ (by assumption)))
      first | (refine hK _ _ ⟨hz0, ?_⟩; clear hK K) | refine ⟨hz0, ?_⟩
      clear hz0
      refine norm_K fun K hK => ?_
      change wpList _ _ _ [_, _, _, _] _ _
      have hr1 := hr
      go_wp2_with fail
      refine (sadd_c hp hp2 he1.sl f1.sl sx SS (by rw [LS.out, e1.out, e2.out]) (by rw [e1.out]; omega)).mono ?_; rintro e w23 ⟨z2, rfl, f2, hb23⟩
      have hc1 := kept hb23 hc1; have hc2 := kept hb23 hc2; have he1 := he1.below hb23; have he2 := he2.below hb23; have ho := ho.below hb23; have hr := hr.below hb23; have f1 := f1.below hb23
      rw [hps.out] at f2
      have hbw : Below w.heap.size w (w22) := (by repeat (first | exact .refl _ _ | apply bwD | apply bwA | (refine bwS ?_ (by first | omega | simp <;> omega) _) | refine bwC ?_ (by assumption)))
      have hf := hr1.fresh f2
      obtain ⟨g2, cap2, rfl, _⟩ := id f2
      have ho0 := ho; have hr0 := hr
      have hbd : Below w.heap.size w (w23) := (by repeat (first | exact .refl _ _ | apply bwD | apply bwA | (refine bwS ?_ (by first | omega | simp <;> omega) _) | refine bwC ?_ (by assumption)))
      obtain rfl := HU.out
      go_wp2_with (at_builtin; refine appr_one rfl _ _ rfl (w23) w.heap.size (w23).heap.size rfl (.slice (some ⟨g, 0, none⟩) us.length cap) us rfl (.slice (some ⟨g2, 0, none⟩) _ cap2) 1 rfl rfl ho0 hbd.size (by omega) ?_; intro g' cap' w' ho' hb' hg' hge)
      first | (refine hK _ _ ⟨rfl, ?_⟩; clear hK K) | refine ⟨rfl, ?_⟩
      go_wp2_with fail
      go_roundw
      case rel =>
        refine ⟨us.length + 1, g', cap', us ++ [_], by omega, by go_num, rfl, by simp, ho', ?_, hbd.trans hb'⟩
        rw [HS.out]
        exact (hr0.app ho0 hg').snoc ((f2.more hbw.size).app ho0 hg') hf
      case measure => simp [intOf]; omega
    · obtain rfl : m = xss.length := by omega
      have e1 : xss.take xss.length = xss := List.take_length
      have e2 : yss.take xss.length = yss := by rw [← HL.out]; exact List.take_length
      rw [e1, e2] at hr
      clear e1 e2
      go_wp2
      go_ret
      exact ⟨_, us, rfl, ho, hr, fun _ => ⟨_, _, by rw [HU.out]; rfl⟩, hb⟩
theorem sumH_eq {p k : Int} {n : Nat} {X Y : Her} (h : isH p n X = true) (h' : isH p n Y = true) : sumH p X k Y = ⟨plusL p X.dg Y.dg k, sumR p X.up k Y.up⟩ := by
  obtain ⟨a, b, c, u, v, t, rfl, _⟩ := isH_op h
  obtain ⟨a', b', c', u', v', t', rfl, _⟩ := isH_op h'
  rfl
theorem isH_parts {p : Int} {n : Nat} {X : Her} (h : isH p n X = true) : X.dg.length = 3 ∧ Fp p X.dg ∧ X.up.length = 3 ∧ ∀ xs ∈ X.up, Ev p n xs := by
  unfold isH at h
  simp only [Bool.and_eq_true, decide_eq_true_eq, isL_fp, List.all_eq_true, isE_iff] at h
  exact ⟨h.1.1, h.1.2, h.2.1, h.2.2⟩
set_option maxRecDepth 100000 in
theorem ssum_c {p k : Int} {n : Nat} {x y : Value} {X Y : Her} {w : World} (hp : 1 ≤ p) (hp2 : p ≤ 1000) (hx : Hv w x X) (hX : isH p n X = true) (hy : Hv w y Y) (hY : isH p n Y = true) (hn : n ≤ 1000) (hk1 : -1000000 ≤ k) (hk2 : k ≤ 1000000) :
    Calls Tryz.prog 97 #[.int .i64 p, x, .int .i64 k, y] w fun e w' => ∃ v, e = .returned v ∧ FrH w' w.heap.size v (sumH p X k Y) ∧ Below w.heap.size w w' := by
  rw [sumH_eq hX hY]
  obtain ⟨x1, x2, x3, x4⟩ := isH_parts hX
  obtain ⟨y1, y2, y3, y4⟩ := isH_parts hY
  obtain ⟨dv1, uv1, rfl, hd1, hu1⟩ := id hx; obtain ⟨a1, c1, rfl, _⟩ := id hd1.op; obtain ⟨b1, k1, rfl, _⟩ := id hu1
  obtain ⟨dv2, uv2, rfl, hd2, hu2⟩ := id hy; obtain ⟨a2, c2, rfl, _⟩ := id hd2.op; obtain ⟨b2, k2, rfl, _⟩ := id hu2
  have SX := x2.sm (M := 1000000) (by omega) (by omega)
  have SY := y2.sm (M := 1000000) (by omega) (by omega)
  have LS := Lib.hid (scaleL_len (p := p) (xs := Y.dg) (k := k))
  have SS := (scaleL_fp (p := p) (xs := Y.dg) (k := k) hp).sm (M := 1000000) (by omega) (by omega)
  have HPS := Lib.hid (plus_scale (p := p) (k := k) (xs := X.dg) (ys := Y.dg))
  have X1 := Lib.hid x1; have X3 := Lib.hid x3; have Y1 := Lib.hid y1; have Y3 := Lib.hid y3
  have hlR : (sumR p X.up k Y.up).length = 3 := by unfold sumR; rw [List.length_zipWith, x3, y3]; rfl
  have HLR := Lib.hid hlR
  have hlD : (plusL p X.dg Y.dg k).length = 3 := by rw [plusL_len (by rw [x1, y1])]; exact x1
  have HLD := Lib.hid hlD
  clear x1 x2 x3 y1 y2 y3 hlR hx hy hX hY hlD
  go_enter Tryz.func97, Tryz.ntmps97
  have hb0 : Below w.heap.size w (((w.alloc (.cells #[.slice a1 X.dg.length c1, .slice b1 X.up.length k1] 31)).alloc (.cells #[.slice a2 Y.dg.length c2, .slice b2 Y.up.length k2] 31)).alloc (.cells #[.slice none 0 0, .slice none 0 0] 31)) := (by repeat (first | exact .refl _ _ | apply bwD | apply bwA | (refine bwS ?_ (by first | omega | simp <;> omega) _) | refine bwC ?_ (by assumption)))
  have hd1 := hd1.below hb0; have hu1 := hu1.below hb0; have hd2 := hd2.below hb0; have hu2 := hu2.below hb0
  have e0 : (((w.alloc (.cells #[.slice a1 X.dg.length c1, .slice b1 X.up.length k1] 31)).alloc (.cells #[.slice a2 Y.dg.length c2, .slice b2 Y.up.length k2] 31)).alloc (.cells #[.slice none 0 0, .slice none 0 0] 31)).cell? ⟨w.heap.size, 0, none⟩ = some (.slice a1 X.dg.length c1) := by simp [go_sem]
  have e1 : (((w.alloc (.cells #[.slice a1 X.dg.length c1, .slice b1 X.up.length k1] 31)).alloc (.cells #[.slice a2 Y.dg.length c2, .slice b2 Y.up.length k2] 31)).alloc (.cells #[.slice none 0 0, .slice none 0 0] 31)).cell? ⟨w.heap.size, 1, none⟩ = some (.slice b1 X.up.length k1) := by simp [go_sem]
  have f0 : (((w.alloc (.cells #[.slice a1 X.dg.length c1, .slice b1 X.up.length k1] 31)).alloc (.cells #[.slice a2 Y.dg.length c2, .slice b2 Y.up.length k2] 31)).alloc (.cells #[.slice none 0 0, .slice none 0 0] 31)).cell? ⟨w.heap.size + 1, 0, none⟩ = some (.slice a2 Y.dg.length c2) := by simp [go_sem]
  have f1 : (((w.alloc (.cells #[.slice a1 X.dg.length c1, .slice b1 X.up.length k1] 31)).alloc (.cells #[.slice a2 Y.dg.length c2, .slice b2 Y.up.length k2] 31)).alloc (.cells #[.slice none 0 0, .slice none 0 0] 31)).cell? ⟨w.heap.size + 1, 1, none⟩ = some (.slice b2 Y.up.length k2) := by simp [go_sem]
  have r0 : (((w.alloc (.cells #[.slice a1 X.dg.length c1, .slice b1 X.up.length k1] 31)).alloc (.cells #[.slice a2 Y.dg.length c2, .slice b2 Y.up.length k2] 31)).alloc (.cells #[.slice none 0 0, .slice none 0 0] 31)).cell? ⟨w.heap.size + 1 + 1, 0, none⟩ = some (.slice none 0 0) := by simp [go_sem]
  have r1 : (((w.alloc (.cells #[.slice a1 X.dg.length c1, .slice b1 X.up.length k1] 31)).alloc (.cells #[.slice a2 Y.dg.length c2, .slice b2 Y.up.length k2] 31)).alloc (.cells #[.slice none 0 0, .slice none 0 0] 31)).cell? ⟨w.heap.size + 1 + 1, 1, none⟩ = some (.slice none 0 0) := by simp [go_sem]
  have hr : Bx (((w.alloc (.cells #[.slice a1 X.dg.length c1, .slice b1 X.up.length k1] 31)).alloc (.cells #[.slice a2 Y.dg.length c2, .slice b2 Y.up.length k2] 31)).alloc (.cells #[.slice none 0 0, .slice none 0 0] 31)) (w.heap.size + 1 + 1) (.slice none 0 0) (.slice none 0 0) := by rw [show w.heap.size + 1 + 1 = ((w.alloc (.cells #[.slice a1 X.dg.length c1, .slice b1 X.up.length k1] 31)).alloc (.cells #[.slice a2 Y.dg.length c2, .slice b2 Y.up.length k2] 31)).heap.size by simp]; exact heap_alloc_new _ _
  go_wp2_with fail
  refine region_flow [(false, [(0, 0), (1, 0), (2, 1), (3, 0), (4, 0), (5, 0), (6, 1), (9, 0), (10, 0), (11, 1), (12, 0), (13, 0), (14, 1), (7, 5)]), (false, [(8, 5)]), (false, [(15, 4), (16, 0), (17, 4)])] (by kernel_rfl) ?_
  refine norm_K fun K hK => ?_
  change wpList _ _ _ [_, _, _, _, _, _, _, _, _, _, _, _, _, _] _ _
  have hb1 : Below (((w.alloc (.cells #[.slice a1 X.dg.length c1, .slice b1 X.up.length k1] 31)).alloc (.cells #[.slice a2 Y.dg.length c2, .slice b2 Y.up.length k2] 31)).alloc (.cells #[.slice none 0 0, .slice none 0 0] 31)).heap.size (((w.alloc (.cells #[.slice a1 X.dg.length c1, .slice b1 X.up.length k1] 31)).alloc (.cells #[.slice a2 Y.dg.length c2, .slice b2 Y.up.length k2] 31)).alloc (.cells #[.slice none 0 0, .slice none 0 0] 31)) (((w.alloc (.cells #[.slice a1 X.dg.length c1, .slice b1 X.up.length k1] 31)).alloc (.cells #[.slice a2 Y.dg.length c2, .slice b2 Y.up.length k2] 31)).alloc (.cells #[.slice none 0 0, .slice none 0 0] 31)).drew := (by repeat (first | exact .refl _ _ | apply bwD | apply bwA | (refine bwS ?_ (by first | omega | simp <;> omega) _) | refine bwC ?_ (by assumption)))
  have hd1 := hd1.below hb1; have hu1 := hu1.below hb1; have hd2 := hd2.below hb1; have hu2 := hu2.below hb1; have e0 := kept hb1 e0; have e1 := kept hb1 e1; have f0 := kept hb1 f0; have f1 := kept hb1 f1; have hr := hr.below hb1
  generalize (((w.alloc (.cells #[.slice a1 X.dg.length c1, .slice b1 X.up.length k1] 31)).alloc (.cells #[.slice a2 Y.dg.length c2, .slice b2 Y.up.length k2] 31)).alloc (.cells #[.slice none 0 0, .slice none 0 0] 31)).drew = wq at *
  have hzq := below_le (show Below ((((w.alloc (.cells #[.slice a1 X.dg.length c1, .slice b1 X.up.length k1] 31)).alloc (.cells #[.slice a2 Y.dg.length c2, .slice b2 Y.up.length k2] 31)).alloc (.cells #[.slice none 0 0, .slice none 0 0] 31))).heap.size ((((w.alloc (.cells #[.slice a1 X.dg.length c1, .slice b1 X.up.length k1] 31)).alloc (.cells #[.slice a2 Y.dg.length c2, .slice b2 Y.up.length k2] 31)).alloc (.cells #[.slice none 0 0, .slice none 0 0] 31))) wq from (by repeat (first | exact .refl _ _ | apply bwD | apply bwA | (refine bwS ?_ (by first | omega | simp <;> omega) _) | refine bwC ?_ (by assumption))))
  simp at hzq
  go_wp2_with fail
  refine (sscale_c (k := k) hp hp2 hk1 hk2 hd2.sl SY (by rw [Y1.out]; omega)).mono ?_; rintro e w2 ⟨z1, rfl, q1, hb2⟩
  have hd1 := hd1.below hb2; have hu1 := hu1.below hb2; have hd2 := hd2.below hb2; have hu2 := hu2.below hb2; have e0 := kept hb2 e0; have e1 := kept hb2 e1; have f0 := kept hb2 f0; have f1 := kept hb2 f1; have hr := hr.below hb2
  go_wp2_with fail
  have hz0 : Below wq.heap.size wq w2 := (by repeat (first | exact .refl _ _ | apply bwD | apply bwA | (refine bwS ?_ (by first | omega | simp <;> omega) _) | refine bwC ?_ (by assumption)))
  first | (refine hK _ _ ⟨hz0, ?_⟩; clear hK K) | refine ⟨hz0, ?_⟩
  clear hz0
  refine norm_K fun K hK => ?_
  change wpList _ _ _ [_] _ _
  have hzb : wq.heap.size ≤ (w2).heap.size := (below_le (by repeat (first | exact .refl _ _ | apply bwD | apply bwA | (refine bwS ?_ (by first | omega | simp <;> omega) _) | refine bwC ?_ (by assumption))))
  go_wp2_with fail
  refine (sadd_c hp hp2 hd1.sl q1.sl SX SS (by rw [LS.out, X1.out, Y1.out]) (by rw [X1.out]; omega)).mono ?_; rintro e w3 ⟨z2, rfl, q2, hb3⟩
  have hd1 := hd1.below hb3; have hu1 := hu1.below hb3; have hd2 := hd2.below hb3; have hu2 := hu2.below hb3; have e0 := kept hb3 e0; have e1 := kept hb3 e1; have f0 := kept hb3 f0; have f1 := kept hb3 f1; have hr := hr.below hb3; have q1 := q1.below hb3
  go_wp2_with fail
  have hz1 : Below wq.heap.size wq w3 := (by repeat (first | exact .refl _ _ | apply bwD | apply bwA | (refine bwS ?_ (by first | omega | simp <;> omega) _) | refine bwC ?_ (by assumption)))
  first | (refine hK _ _ ⟨hz1, ?_⟩; clear hK K) | refine ⟨hz1, ?_⟩
  clear hz1
  refine norm_K fun K hK => ?_
  change wpList _ _ _ [_, _, _] _ _
  rw [HPS.out] at q2
  have q2w := q2
  have hbs_ : Below (w2).heap.size (w2) (w3) := (by repeat (first | exact .refl _ _ | apply bwD | apply bwA | (refine bwS ?_ (by first | omega | simp <;> omega) _) | refine bwC ?_ (by assumption)))
  have hzc : wq.heap.size ≤ (w3).heap.size := (below_le (by repeat (first | exact .refl _ _ | apply bwD | apply bwA | (refine bwS ?_ (by first | omega | simp <;> omega) _) | refine bwC ?_ (by assumption))))
  go_wp2_with fail
  refine (sl15_c hp hp2 hk1 hk2 hu1 hu2 x4 y4 (by rw [X3.out, Y3.out]) hn (by rw [X3.out]; omega)).mono ?_; rintro e w4 ⟨z3, us, rfl, ho, hra, hsl, hb4⟩
  have hd1 := hd1.below hb4; have hu1 := hu1.below hb4; have hd2 := hd2.below hb4; have hu2 := hu2.below hb4; have e0 := kept hb4 e0; have e1 := kept hb4 e1; have f0 := kept hb4 f0; have f1 := kept hb4 f1; have hr := hr.below hb4; have q1 := q1.below hb4; have q2 := q2.below hb4
  have hus : us.length = 3 := by rw [hra.1, HLR.out]
  obtain ⟨gu, cu, rfl⟩ := hsl (by rw [X3.out]; omega)
  obtain ⟨gd, cd, rfl, _⟩ := id q2
  have hv := FrH.mk_ q2w (by assumption) (frR_mk hra ho (by omega)) hbs_.size
  have HU := Lib.hid hus; clear hus hsl
  have rc0 := hr.c0; have rc1 := hr.c1; have rf0 := hr.f0; have rf1 := hr.f1
  go_wp2_with fail
  first | (refine hK _ _ ⟨rfl, ?_⟩; clear hK K) | refine ⟨rfl, ?_⟩
  go_wp2_with fail
  refine bodyPost_ret (v := .agg #[.slice (some ⟨gd, 0, none⟩) (plusL p X.dg Y.dg k).length cd, .slice (some ⟨gu, 0, none⟩) us.length cu]) (by simp [results, Tryz.results97, go_sem, rc0, rc1, HU.out, HLD.out]) rfl ⟨_, rfl, ?_, ?_⟩
  · exact ((hv.set_ (by first | omega | simp <;> omega) _).set_ (by first | omega | simp <;> omega) _).more (below_le (by repeat (first | exact .refl _ _ | apply bwD | apply bwA | (refine bwS ?_ (by first | omega | simp <;> omega) _) | refine bwC ?_ (by assumption))))
  · exact bwS (bwS (by repeat (first | exact .refl _ _ | apply bwD | apply bwA | (refine bwS ?_ (by first | omega | simp <;> omega) _) | refine bwC ?_ (by assumption))) (by first | omega | simp <;> omega) _) (by first | omega | simp <;> omega) _
end Go.Proofs.YtgcelfnjijhmkaaGreat
