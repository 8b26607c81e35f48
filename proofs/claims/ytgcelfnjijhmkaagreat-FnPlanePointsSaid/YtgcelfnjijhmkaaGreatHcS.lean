/-
  The numbers of a matrix in one row, and sums of matrices: the program's.
-/
import Derived.Test.YtgcelfnjijhmkaaGreatJbc
namespace Go.Proofs.YtgcelfnjijhmkaaGreat
open Go.RowKit

theorem flat_le {xss : List (List Int)} : ∀ k, (xss.take k).flatten.length ≤ xss.flatten.length := by
  intro k
  have h := congrArg List.flatten (List.take_append_drop k xss)
  rw [List.flatten_append] at h
  rw [← h, List.length_append]; omega
def totN (xss : List (List Int)) : Nat := xss.flatten.length
theorem totN_snoc {xss : List (List Int)} {xs : List Int} : totN (xss ++ [xs]) = totN xss + xs.length := by unfold totN; rw [List.flatten_append, List.length_append]; simp
set_option maxHeartbeats 1000000 in
set_option maxRecDepth 100000 in
theorem concat_c {x : Value} {xss : List (List Int)} {w : World} (hx : Re w x xss) (hne : ∀ xs ∈ xss, 0 < xs.length) (hn : 0 < xss.length) (hm : xss.flatten.length ≤ 1000) (hm2 : xss.length ≤ 1000) :
    Calls Tryz.prog 98 #[x] w fun e w' => ∃ v, e = .returned v ∧ FrI w' w.heap.size v xss.flatten ∧ Below w.heap.size w w' := by
  obtain ⟨a, c, rfl, h1, h2, hx⟩ := hx
  rcases hx with rfl | ⟨b, off, rfl, hx⟩
  · simp at hn
  have hpos : 0 < xss.flatten.length := by
    match xss, hn with
    | y :: ys, _ => have := hne y (by simp); simp; omega
  have hle := Lib.hid (show ∀ k, totN (xss.take k) ≤ totN xss from flat_le (xss := xss))
  change 0 < totN xss at hpos; change totN xss ≤ 1000 at hm
  have hx0 : ∀ j (h : j < xss.length), ∃ u, w.cell? ⟨b, off + j, none⟩ = some u ∧ El w u xss[j] := hx
  have HX := Lib.hid hx; clear hx
  go_enter Tryz.func98, Tryz.ntmps98
  go_wp2
  go_loop [3, 11] (fun q i => ∃ k : Nat, k ≤ xss.length ∧ i = .int .i64 k ∧ q = .int .i64 (totN (xss.take k) : Nat)) (fun _ i => xss.length - (intOf i).toNat)
  case atStart => exact ⟨0, Nat.zero_le _, rfl, rfl⟩
  case round =>
    obtain ⟨k, hk, rfl, rfl⟩ := hrel
    by_cases hlt : k < xss.length
    · obtain ⟨a1, c1, xs, hxs, hc, he, ht⟩ := Re.get HX.out hlt
      have hf := hle.out (k + 1)
      rw [ht, totN_snoc] at hf
      have hxl : xs.length ≤ 1000 := by omega
      obtain ⟨m, hmm⟩ : ∃ m, m = totN (xss.take k) := ⟨_, rfl⟩
      rw [← hmm] at hf ⊢
      have HT := Lib.hid ht; have HMM := Lib.hid hmm; clear ht hmm
      have hneg : ¬ ((m : Int) + (xs.length : Int) < 0) := by omega
      go_wp2
      go_round
      case rel => exact ⟨k + 1, by omega, by go_num, by rw [HT.out, totN_snoc, ← HMM.out]; go_num⟩
      case measure => simp [intOf]; omega
    · obtain rfl : k = xss.length := by omega
      rw [show totN (xss.take xss.length) = totN xss by rw [List.take_length]]
      obtain ⟨S, hS⟩ : ∃ S, S = totN xss := ⟨_, rfl⟩
      rw [← hS] at hpos hm ⊢
      have HS := Lib.hid hS; clear hS
      go_wp2_with fail
      refine (grow_c hpos hm).mono ?_; rintro e w1 ⟨g, cap, rfl, ho, hb⟩
      go_wp2
      go_loopw [6, 27] (fun q i wr => ∃ (k g cap m : Nat), k ≤ xss.length ∧ i = .int .i64 k ∧ q = .slice (some ⟨g, 0, none⟩) m cap ∧ m = totN (xss.take k) ∧ OwnI wr w.heap.size g m cap (xss.take k).flatten ∧ Below w.heap.size w wr) (fun _ i _ => xss.length - (intOf i).toNat)
      case atStart => exact ⟨0, g, cap, 0, Nat.zero_le _, rfl, rfl, rfl, ho, hb⟩
      case round =>
        clear ho hb
        obtain ⟨k, gg, cc, m, hk, rfl, rfl, hmk, ho, hb⟩ := hrel
        by_cases hlt : k < xss.length
        · obtain ⟨a1, c1, xs, hxs, hc, he, ht⟩ := Re.get HX.out hlt
          have hf := hle.out (k + 1)
          rw [ht, totN_snoc, ← hmk, ← HS.out] at hf
          have hxp := hne xs hxs
          have hc := kept hb hc
          obtain ⟨b1, o1, c2, e2, _, _, hA⟩ := (he.below hb).op1 hxp
          cases e2
          have HT := Lib.hid ht; have HMM := Lib.hid hmk; clear ht hmk
          obtain ⟨ys, hys⟩ : ∃ ys, ys = (xss.take k).flatten := ⟨_, rfl⟩
          rw [← hys] at ho
          have HYS := Lib.hid hys; clear hys
          go_wp2_with (at_builtin; refine app_int rfl _ _ rfl wr w.heap.size gg m cc ys rfl b1 o1 xs.length c1 xs rfl ho hb.size hA rfl hxp (by omega) ?_; intro g' cap' w' ho' hg' hge)
          go_roundw
          case rel => exact ⟨k + 1, g', cap', m + xs.length, by omega, by go_num, rfl, by rw [HT.out, totN_snoc, ← HMM.out], by rw [HT.out, List.flatten_append, ← HYS.out]; simpa using ho', blw_grown hb hg' ho.lt.1⟩
          case measure => simp [intOf]; omega
        · obtain rfl : k = xss.length := by omega
          have e : xss.take xss.length = xss := List.take_length
          rw [e] at hmk ho
          clear e
          have HMM := Lib.hid hmk; clear hmk
          go_wp2
          go_ret
          refine ⟨_, rfl, ⟨gg, cc, ?_, ?_⟩, hb⟩
          · rw [HMM.out]; rfl
          · have e := HMM.out; subst e; exact ho
theorem isH_nums {p : Int} {n : Nat} {X : Her} (h : isH p n X = true) (hn : 1 ≤ n) : X.dg.length = 3 ∧ X.up.length = 3 ∧ (∀ xs ∈ X.up, 0 < xs.length) ∧ totN X.up = n + n + n ∧ Fp p (numsH X) := by
  obtain ⟨a, b, c, u, v, t, rfl, h1, h2, h3, h4, h5, h6, eu, ev, et⟩ := isH_op h
  have e1 := eu.1; have e2 := ev.1; have e3 := et.1
  refine ⟨rfl, rfl, fun xs hx => ?_, ?_, ?_⟩
  · simp only [List.mem_cons, List.not_mem_nil, or_false] at hx
    rcases hx with rfl | rfl | rfl <;> omega
  · unfold totN; simp; omega
  · unfold numsH
    refine fp_app (fun x hx => ?_) ?_
    · simp only [List.mem_cons, List.not_mem_nil, or_false] at hx
      rcases hx with rfl | rfl | rfl <;> omega
    · simp only [List.flatten_cons, List.flatten_nil, List.append_nil]
      exact fp_app eu.2 (fp_app ev.2 et.2)
def splitH (n : Nat) (xs : List Int) : Her := ⟨xs.take 3, [((xs.drop 3).drop 0).take n, ((xs.drop 3).drop n).take n, ((xs.drop 3).drop (n + n)).take n]⟩
theorem split_nums {p : Int} {n : Nat} {X : Her} (h : isH p n X = true) : splitH n (numsH X) = X := by
  obtain ⟨a, b, c, u, v, t, rfl, _, _, _, _, _, _, eu, ev, et⟩ := isH_op h
  have e1 := eu.1; have e2 := ev.1; have e3 := et.1
  unfold splitH numsH
  simp only [List.flatten_cons, List.flatten_nil, List.append_nil, List.cons_append, List.nil_append, List.take_succ_cons, List.take_zero, List.drop_succ_cons, List.drop_zero]
  have f1 : (u ++ (v ++ t)).take n = u := by rw [List.take_append_of_le_length (by omega), List.take_of_length_le (by omega)]
  have f2 : ((u ++ (v ++ t)).drop n).take n = v := by
    rw [List.drop_append_of_le_length (by omega), List.drop_eq_nil_of_le (by omega), List.nil_append, List.take_append_of_le_length (by omega), List.take_of_length_le (by omega)]
  have f3 : ((u ++ (v ++ t)).drop (n + n)).take n = t := by
    rw [← List.drop_drop, List.drop_append_of_le_length (by omega), show u.drop n = [] from List.drop_eq_nil_of_le (by omega), List.nil_append, List.drop_append_of_le_length (by omega), List.drop_eq_nil_of_le (by omega), List.nil_append, List.take_of_length_le (by omega)]
  rw [f1, f2, f3]
theorem nums_len {p : Int} {n : Nat} {X : Her} (h : isH p n X = true) : (numsH X).length = 3 + (n + n + n) := by
  obtain ⟨a, b, c, u, v, t, rfl, _, _, _, _, _, _, eu, ev, et⟩ := isH_op h
  have e1 := eu.1; have e2 := ev.1; have e3 := et.1
  unfold numsH; simp; omega
theorem plus_nums {p k : Int} {n : Nat} {X Y : Her} (h : isH p n X = true) (h' : isH p n Y = true) : plusL p (numsH X) (numsH Y) k = numsH (sumH p X k Y) := by
  obtain ⟨a, b, c, u, v, t, rfl, _, _, _, _, _, _, eu, ev, et⟩ := isH_op h
  obtain ⟨a', b', c', u', v', t', rfl, _, _, _, _, _, _, eu', ev', et'⟩ := isH_op h'
  have e1 := eu.1; have e2 := ev.1; have e3 := et.1; have e4 := eu'.1; have e5 := ev'.1; have e6 := et'.1
  unfold numsH sumH plusL
  simp only [List.flatten_cons, List.flatten_nil, List.append_nil]
  rw [List.zipWith_append (by simp), List.zipWith_append (by omega), List.zipWith_append (by omega)]
  rfl
theorem scale_nums {p k : Int} {X : Her} (h : ∃ n, isH p n X = true) : scaleL p (numsH X) k = numsH (multH p X k) := by
  obtain ⟨n, h⟩ := h
  obtain ⟨a, b, c, u, v, t, rfl, _⟩ := isH_op h
  unfold numsH multH scaleL
  simp only [List.flatten_cons, List.flatten_nil, List.append_nil, List.map_append]
  rfl
theorem mod_fp2 {p x : Int} (hp : 1 ≤ p) : 0 ≤ x % p ∧ x % p < p := ⟨Int.emod_nonneg _ (by omega), Int.emod_lt_of_pos _ (by omega)⟩
theorem sumH_is {p k : Int} {n : Nat} {X Y : Her} (hp : 1 ≤ p) (h : isH p n X = true) (h' : isH p n Y = true) : isH p n (sumH p X k Y) = true := by
  obtain ⟨a, b, c, u, v, t, rfl, _, _, _, _, _, _, eu, ev, et⟩ := isH_op h
  obtain ⟨a', b', c', u', v', t', rfl, _, _, _, _, _, _, eu', ev', et'⟩ := isH_op h'
  have g : ∀ {n : Nat} {xs ys : List Int}, Ev p n xs → Ev p n ys → Ev p n (plusL p xs ys k) := fun h h' => ⟨by rw [plusL_len (by rw [h.1, h'.1])]; exact h.1, plusL_fp hp⟩
  exact isH_mk (mod_fp2 hp) (mod_fp2 hp) (mod_fp2 hp) (g eu eu') (g ev ev') (g et et')
theorem multH_is {p k : Int} {n : Nat} {X : Her} (hp : 1 ≤ p) (h : isH p n X = true) : isH p n (multH p X k) = true := by
  obtain ⟨a, b, c, u, v, t, rfl, _, _, _, _, _, _, eu, ev, et⟩ := isH_op h
  have g : ∀ {n : Nat} {xs : List Int}, Ev p n xs → Ev p n (scaleL p xs k) := fun h => ⟨by rw [scaleL_len]; exact h.1, scaleL_fp hp⟩
  exact isH_mk (mod_fp2 hp) (mod_fp2 hp) (mod_fp2 hp) (g eu) (g ev) (g et)
set_option maxRecDepth 100000 in
theorem nums_c {p : Int} {n : Nat} {x : Value} {X : Her} {w : World} (hx : Hv w x X) (hX : isH p n X = true) (hn : 1 ≤ n) (hn2 : n ≤ 8) :
    Calls Tryz.prog 52 #[x] w fun e w' => ∃ v, e = .returned v ∧ FrI w' w.heap.size v (numsH X) ∧ Below w.heap.size w w' := by
  obtain ⟨hdl, hul, hpos, htot, _⟩ := isH_nums hX hn
  obtain ⟨dv, uv, rfl, hd, hu⟩ := id hx
  obtain ⟨a1, c1, rfl, _⟩ := id hd.op
  obtain ⟨b1, k1, rfl, _⟩ := id hu
  have HD := Lib.hid hdl; have HU := Lib.hid hul; have HT := Lib.hid htot
  have hpu : 0 < X.up.length := by omega
  have hm : X.up.flatten.length ≤ 1000 := by change totN X.up ≤ 1000; omega
  have hm0 : 0 < X.up.flatten.length := by change 0 < totN X.up; omega
  have hfl : numsH X = [X.dg, X.up.flatten].flatten := by unfold numsH; simp
  have hd0 : 0 < X.dg.length := by omega
  have hu3 : X.up.length ≤ 1000 := by omega
  rw [hfl]
  have hall : ∀ xs ∈ [X.dg, X.up.flatten], 0 < xs.length := fun xs hxs => by
    simp only [List.mem_cons, List.not_mem_nil, or_false] at hxs
    rcases hxs with rfl | rfl
    · exact hd0
    · exact hm0
  have hlen : ([X.dg, X.up.flatten].flatten).length ≤ 1000 := by
    simp only [List.flatten_cons, List.flatten_nil, List.append_nil, List.length_append]
    have h2 : X.up.flatten.length = n + n + n := htot
    omega
  clear hdl hul htot hfl hx
  obtain ⟨fl, hfl⟩ : ∃ f, f = X.up.flatten := ⟨_, rfl⟩
  have hcon := fun (W : World) (x : Value) (hx : Re W x X.up) => concat_c (w := W) hx hpos hpu hm hu3
  rw [← hfl] at hm hm0 hall hlen ⊢
  simp only [← hfl] at hcon
  clear hfl hpos
  go_enter Tryz.func52, Tryz.ntmps52
  have hb0 : Below w.heap.size w (w.alloc (.cells #[.slice a1 X.dg.length c1, .slice b1 X.up.length k1] 31)) := (by repeat (first | exact .refl _ _ | apply bwD | apply bwA | (refine bwS ?_ (by first | omega | simp <;> omega) _) | refine bwC ?_ (by assumption)))
  have hd := hd.below hb0; have hu := hu.below hb0
  have e0 : (w.alloc (.cells #[.slice a1 X.dg.length c1, .slice b1 X.up.length k1] 31)).cell? ⟨w.heap.size, 0, none⟩ = some (.slice a1 X.dg.length c1) := by simp [go_sem]
  have e1 : (w.alloc (.cells #[.slice a1 X.dg.length c1, .slice b1 X.up.length k1] 31)).cell? ⟨w.heap.size, 1, none⟩ = some (.slice b1 X.up.length k1) := by simp [go_sem]
  go_wp2_with fail
  refine region_flow [(false, [(0, 0), (1, 1), (2, 0), (3, 1), (4, 5)]), (false, [(5, 4), (6, 4), (7, 0)])] (by kernel_rfl) ?_
  refine norm_K fun K hK => ?_
  change wpList _ _ _ [_, _, _, _, _] _ _
  have hb1 : Below (w.alloc (.cells #[.slice a1 X.dg.length c1, .slice b1 X.up.length k1] 31)).heap.size (w.alloc (.cells #[.slice a1 X.dg.length c1, .slice b1 X.up.length k1] 31)) (w.alloc (.cells #[.slice a1 X.dg.length c1, .slice b1 X.up.length k1] 31)).drew := (by repeat (first | exact .refl _ _ | apply bwD | apply bwA | (refine bwS ?_ (by first | omega | simp <;> omega) _) | refine bwC ?_ (by assumption)))
  have hd := hd.below hb1; have hu := hu.below hb1; have e0 := kept hb1 e0; have e1 := kept hb1 e1
  generalize (w.alloc (.cells #[.slice a1 X.dg.length c1, .slice b1 X.up.length k1] 31)).drew = wq at *
  go_wp2_with fail
  refine (hcon _ _ hu).mono ?_; rintro e w2 ⟨v1, rfl, h1, hb2⟩
  have hd := hd.below hb2; have hu := hu.below hb2; have e0 := kept hb2 e0; have e1 := kept hb2 e1
  go_wp2_with fail
  have hz0 : Below wq.heap.size wq w2 := (by repeat (first | exact .refl _ _ | apply bwD | apply bwA | (refine bwS ?_ (by first | omega | simp <;> omega) _) | refine bwC ?_ (by assumption)))
  first | (refine hK _ _ ⟨hz0, ?_⟩; clear hK K) | refine ⟨hz0, ?_⟩
  clear hz0
  refine norm_K fun K hK => ?_
  change wpList _ _ _ [_, _, _] _ _
  obtain ⟨g1, cap1, rfl, _⟩ := id h1
  have hb3 : Below w2.heap.size w2 (w2.alloc (.cells #[.slice a1 X.dg.length c1, .slice (some ⟨g1, 0, none⟩) fl.length cap1] 24)) := (by repeat (first | exact .refl _ _ | apply bwD | apply bwA | (refine bwS ?_ (by first | omega | simp <;> omega) _) | refine bwC ?_ (by assumption)))
  have hd := hd.below hb3; have hu := hu.below hb3; have e0 := kept hb3 e0; have e1 := kept hb3 e1; have h1 := h1.below hb3
  have l0 : (w2.alloc (.cells #[.slice a1 X.dg.length c1, .slice (some ⟨g1, 0, none⟩) fl.length cap1] 24)).cell? ⟨w2.heap.size, 0, none⟩ = some (.slice a1 X.dg.length c1) := by simp [go_sem]
  have l1 : (w2.alloc (.cells #[.slice a1 X.dg.length c1, .slice (some ⟨g1, 0, none⟩) fl.length cap1] 24)).cell? ⟨w2.heap.size, 1, none⟩ = some (.slice (some ⟨g1, 0, none⟩) fl.length cap1) := by simp [go_sem]
  go_wp2_with fail
  refine (concat_c (Re.two hd l0 h1.el l1 (c := 2) (by decide) (by decide)) hall (by simp) hlen (by simp)).mono ?_; rintro e w4 ⟨v2, rfl, h2, hb4⟩
  have hd := hd.below hb4; have hu := hu.below hb4; have e0 := kept hb4 e0; have e1 := kept hb4 e1; have h1 := h1.below hb4; have l0 := kept hb4 l0; have l1 := kept hb4 l1
  go_wp2_with fail
  first | (refine hK _ _ ⟨rfl, ?_⟩; clear hK K) | refine ⟨rfl, ?_⟩
  go_wp2_with fail
  go_ret
  exact ⟨_, rfl, h2.more (below_le (by repeat (first | exact .refl _ _ | apply bwD | apply bwA | (refine bwS ?_ (by first | omega | simp <;> omega) _) | refine bwC ?_ (by assumption)))), (by repeat (first | exact .refl _ _ | apply bwD | apply bwA | (refine bwS ?_ (by first | omega | simp <;> omega) _) | refine bwC ?_ (by assumption)))⟩
set_option maxRecDepth 100000 in
theorem jsum_c {p k : Int} {s x y : Value} {st : List Int} {X Y : Her} {w : World} (hd : Dok p st) (hs : El w s st) (hx : Hv w x X) (hX : isH p (sz st.length) X = true) (hy : Hv w y Y) (hY : isH p (sz st.length) Y = true) (hk1 : -1000000 ≤ k) (hk2 : k ≤ 1000000) :
    Calls Tryz.prog 100 #[.agg #[.int .i64 p, s], x, .int .i64 k, y] w fun e w' => ∃ v, e = .returned v ∧ FrH w' w.heap.size v (sumH p X k Y) ∧ Below w.heap.size w w' := by
  have hp1 := hd.hp.lo
  have hp2 := hd.hp.hi
  have hsz := sz_le hd
  have hl3 := hd.hl
  have hS := sumH_is (p := p) (k := k) (by omega) hX hY
  have hsp := split_nums hS
  have hpl := plus_nums (k := k) hX hY
  have hlS := nums_len hS
  have SX := (isH_nums hX hsz.1).2.2.2.2.sm (M := 1000000) (by omega) (by omega)
  have SY := (isH_nums hY hsz.1).2.2.2.2.sm (M := 1000000) (by omega) (by omega)
  have LX := Lib.hid (nums_len hX); have LY := Lib.hid (nums_len hY)
  have HSP := Lib.hid hsp; have HPL := Lib.hid hpl
  have hS3 := (isH_nums hS hsz.1).1; have hS4 := (isH_nums hS hsz.1).2.1
  have HS3 := Lib.hid hS3; have HS4 := Lib.hid hS4
  obtain ⟨n, hn⟩ : ∃ n, n = sz st.length := ⟨_, rfl⟩
  rw [← hn] at hsz
  have hcon := fun (W : World) (s x : Value) (xs : List Int) (hs : El W s st) hx hl => herm_c (w := W) (p := p) (s := s) (x := x) (xs := xs) hs hl3 hn hx hl
  rw [← hn] at LX LY hlS hX hY HSP
  have HLS := Lib.hid hlS
  clear hn hsp hpl hS hlS hS3 hS4
  obtain ⟨a0, c0, rfl, _⟩ := id hs.op
  obtain ⟨dv1, uv1, rfl, hd1_, hu1_⟩ := id hx; obtain ⟨a1, c1, rfl, _⟩ := id hd1_.op; obtain ⟨b1, k1, rfl, _⟩ := id hu1_; clear hd1_ hu1_
  obtain ⟨dv2, uv2, rfl, hd2_, hu2_⟩ := id hy; obtain ⟨a2, c2, rfl, _⟩ := id hd2_.op; obtain ⟨b2, k2, rfl, _⟩ := id hu2_; clear hd2_ hu2_
  go_enter Tryz.func100, Tryz.ntmps100
  have hb0 : Below w.heap.size w ((((w.alloc (.cells #[.int .i64 p, .slice a0 st.length c0] 26)).alloc (.cells #[.slice a1 X.dg.length c1, .slice b1 X.up.length k1] 31)).alloc (.cells #[.slice a2 Y.dg.length c2, .slice b2 Y.up.length k2] 31)).alloc (.cells #[.slice none 0 0, .slice none 0 0] 31)) := (by repeat (first | exact .refl _ _ | apply bwD | apply bwA | (refine bwS ?_ (by first | omega | simp <;> omega) _) | refine bwC ?_ (by assumption)))
  have hs := hs.below hb0; have hx := hx.below hb0; have hy := hy.below hb0
  have d0 : ((((w.alloc (.cells #[.int .i64 p, .slice a0 st.length c0] 26)).alloc (.cells #[.slice a1 X.dg.length c1, .slice b1 X.up.length k1] 31)).alloc (.cells #[.slice a2 Y.dg.length c2, .slice b2 Y.up.length k2] 31)).alloc (.cells #[.slice none 0 0, .slice none 0 0] 31)).cell? ⟨w.heap.size, 0, none⟩ = some (.int .i64 p) := by simp [go_sem]
  have d1 : ((((w.alloc (.cells #[.int .i64 p, .slice a0 st.length c0] 26)).alloc (.cells #[.slice a1 X.dg.length c1, .slice b1 X.up.length k1] 31)).alloc (.cells #[.slice a2 Y.dg.length c2, .slice b2 Y.up.length k2] 31)).alloc (.cells #[.slice none 0 0, .slice none 0 0] 31)).cell? ⟨w.heap.size, 1, none⟩ = some (.slice a0 st.length c0) := by simp [go_sem]
  have e0 : ((((w.alloc (.cells #[.int .i64 p, .slice a0 st.length c0] 26)).alloc (.cells #[.slice a1 X.dg.length c1, .slice b1 X.up.length k1] 31)).alloc (.cells #[.slice a2 Y.dg.length c2, .slice b2 Y.up.length k2] 31)).alloc (.cells #[.slice none 0 0, .slice none 0 0] 31)).cell? ⟨w.heap.size + 1, 0, none⟩ = some (.slice a1 X.dg.length c1) := by simp [go_sem]
  have e1 : ((((w.alloc (.cells #[.int .i64 p, .slice a0 st.length c0] 26)).alloc (.cells #[.slice a1 X.dg.length c1, .slice b1 X.up.length k1] 31)).alloc (.cells #[.slice a2 Y.dg.length c2, .slice b2 Y.up.length k2] 31)).alloc (.cells #[.slice none 0 0, .slice none 0 0] 31)).cell? ⟨w.heap.size + 1, 1, none⟩ = some (.slice b1 X.up.length k1) := by simp [go_sem]
  have f0 : ((((w.alloc (.cells #[.int .i64 p, .slice a0 st.length c0] 26)).alloc (.cells #[.slice a1 X.dg.length c1, .slice b1 X.up.length k1] 31)).alloc (.cells #[.slice a2 Y.dg.length c2, .slice b2 Y.up.length k2] 31)).alloc (.cells #[.slice none 0 0, .slice none 0 0] 31)).cell? ⟨w.heap.size + 1 + 1, 0, none⟩ = some (.slice a2 Y.dg.length c2) := by simp [go_sem]
  have f1 : ((((w.alloc (.cells #[.int .i64 p, .slice a0 st.length c0] 26)).alloc (.cells #[.slice a1 X.dg.length c1, .slice b1 X.up.length k1] 31)).alloc (.cells #[.slice a2 Y.dg.length c2, .slice b2 Y.up.length k2] 31)).alloc (.cells #[.slice none 0 0, .slice none 0 0] 31)).cell? ⟨w.heap.size + 1 + 1, 1, none⟩ = some (.slice b2 Y.up.length k2) := by simp [go_sem]
  have r0 : ((((w.alloc (.cells #[.int .i64 p, .slice a0 st.length c0] 26)).alloc (.cells #[.slice a1 X.dg.length c1, .slice b1 X.up.length k1] 31)).alloc (.cells #[.slice a2 Y.dg.length c2, .slice b2 Y.up.length k2] 31)).alloc (.cells #[.slice none 0 0, .slice none 0 0] 31)).cell? ⟨w.heap.size + 1 + 1 + 1, 0, none⟩ = some (.slice none 0 0) := by simp [go_sem]
  have r1 : ((((w.alloc (.cells #[.int .i64 p, .slice a0 st.length c0] 26)).alloc (.cells #[.slice a1 X.dg.length c1, .slice b1 X.up.length k1] 31)).alloc (.cells #[.slice a2 Y.dg.length c2, .slice b2 Y.up.length k2] 31)).alloc (.cells #[.slice none 0 0, .slice none 0 0] 31)).cell? ⟨w.heap.size + 1 + 1 + 1, 1, none⟩ = some (.slice none 0 0) := by simp [go_sem]
  have hr : Bx ((((w.alloc (.cells #[.int .i64 p, .slice a0 st.length c0] 26)).alloc (.cells #[.slice a1 X.dg.length c1, .slice b1 X.up.length k1] 31)).alloc (.cells #[.slice a2 Y.dg.length c2, .slice b2 Y.up.length k2] 31)).alloc (.cells #[.slice none 0 0, .slice none 0 0] 31)) (w.heap.size + 1 + 1 + 1) (.slice none 0 0) (.slice none 0 0) := by rw [show w.heap.size + 1 + 1 + 1 = (((w.alloc (.cells #[.int .i64 p, .slice a0 st.length c0] 26)).alloc (.cells #[.slice a1 X.dg.length c1, .slice b1 X.up.length k1] 31)).alloc (.cells #[.slice a2 Y.dg.length c2, .slice b2 Y.up.length k2] 31)).heap.size by simp]; exact heap_alloc_new _ _
  go_wp2_with fail
  refine region_flow [(false, [(0, 1), (1, 1), (3, 1), (5, 1), (7, 0), (2, 5)]), (false, [(4, 5)]), (false, [(6, 5)]), (false, [(8, 5)]), (false, [(9, 4), (10, 4)])] (by kernel_rfl) ?_
  refine norm_K fun K hK => ?_
  change wpList _ _ _ [_, _, _, _, _, _] _ _
  have hb1 : Below ((((w.alloc (.cells #[.int .i64 p, .slice a0 st.length c0] 26)).alloc (.cells #[.slice a1 X.dg.length c1, .slice b1 X.up.length k1] 31)).alloc (.cells #[.slice a2 Y.dg.length c2, .slice b2 Y.up.length k2] 31)).alloc (.cells #[.slice none 0 0, .slice none 0 0] 31)).heap.size ((((w.alloc (.cells #[.int .i64 p, .slice a0 st.length c0] 26)).alloc (.cells #[.slice a1 X.dg.length c1, .slice b1 X.up.length k1] 31)).alloc (.cells #[.slice a2 Y.dg.length c2, .slice b2 Y.up.length k2] 31)).alloc (.cells #[.slice none 0 0, .slice none 0 0] 31)) ((((w.alloc (.cells #[.int .i64 p, .slice a0 st.length c0] 26)).alloc (.cells #[.slice a1 X.dg.length c1, .slice b1 X.up.length k1] 31)).alloc (.cells #[.slice a2 Y.dg.length c2, .slice b2 Y.up.length k2] 31)).alloc (.cells #[.slice none 0 0, .slice none 0 0] 31)).drew := (by repeat (first | exact .refl _ _ | apply bwD | apply bwA | (refine bwS ?_ (by first | omega | simp <;> omega) _) | refine bwC ?_ (by assumption)))
  have hs := hs.below hb1; have hx := hx.below hb1; have hy := hy.below hb1; have d0 := kept hb1 d0; have d1 := kept hb1 d1; have e0 := kept hb1 e0; have e1 := kept hb1 e1; have f0 := kept hb1 f0; have f1 := kept hb1 f1; have hr := hr.below hb1
  generalize ((((w.alloc (.cells #[.int .i64 p, .slice a0 st.length c0] 26)).alloc (.cells #[.slice a1 X.dg.length c1, .slice b1 X.up.length k1] 31)).alloc (.cells #[.slice a2 Y.dg.length c2, .slice b2 Y.up.length k2] 31)).alloc (.cells #[.slice none 0 0, .slice none 0 0] 31)).drew = wq at *
  have hzq := below_le (show Below (((((w.alloc (.cells #[.int .i64 p, .slice a0 st.length c0] 26)).alloc (.cells #[.slice a1 X.dg.length c1, .slice b1 X.up.length k1] 31)).alloc (.cells #[.slice a2 Y.dg.length c2, .slice b2 Y.up.length k2] 31)).alloc (.cells #[.slice none 0 0, .slice none 0 0] 31))).heap.size (((((w.alloc (.cells #[.int .i64 p, .slice a0 st.length c0] 26)).alloc (.cells #[.slice a1 X.dg.length c1, .slice b1 X.up.length k1] 31)).alloc (.cells #[.slice a2 Y.dg.length c2, .slice b2 Y.up.length k2] 31)).alloc (.cells #[.slice none 0 0, .slice none 0 0] 31))) wq from (by repeat (first | exact .refl _ _ | apply bwD | apply bwA | (refine bwS ?_ (by first | omega | simp <;> omega) _) | refine bwC ?_ (by assumption))))
  simp at hzq
  go_wp2_with fail
  refine (dfield_c).mono ?_; rintro e w2 ⟨rfl, hb2⟩
  have hs := hs.below hb2; have hx := hx.below hb2; have hy := hy.below hb2; have d0 := kept hb2 d0; have d1 := kept hb2 d1; have e0 := kept hb2 e0; have e1 := kept hb2 e1; have f0 := kept hb2 f0; have f1 := kept hb2 f1; have hr := hr.below hb2
  go_wp2_with fail
  have hz0 : Below wq.heap.size wq w2 := (by repeat (first | exact .refl _ _ | apply bwD | apply bwA | (refine bwS ?_ (by first | omega | simp <;> omega) _) | refine bwC ?_ (by assumption)))
  first | (refine hK _ _ ⟨hz0, ?_⟩; clear hK K) | refine ⟨hz0, ?_⟩
  clear hz0
  refine norm_K fun K hK => ?_
  change wpList _ _ _ [_] _ _
  go_wp2_with fail
  refine (nums_c hx hX hsz.1 hsz.2).mono ?_; rintro e w3 ⟨v1, rfl, h1, hb3⟩
  have hs := hs.below hb3; have hx := hx.below hb3; have hy := hy.below hb3; have d0 := kept hb3 d0; have d1 := kept hb3 d1; have e0 := kept hb3 e0; have e1 := kept hb3 e1; have f0 := kept hb3 f0; have f1 := kept hb3 f1; have hr := hr.below hb3
  go_wp2_with fail
  have hz1 : Below wq.heap.size wq w3 := (by repeat (first | exact .refl _ _ | apply bwD | apply bwA | (refine bwS ?_ (by first | omega | simp <;> omega) _) | refine bwC ?_ (by assumption)))
  first | (refine hK _ _ ⟨hz1, ?_⟩; clear hK K) | refine ⟨hz1, ?_⟩
  clear hz1
  refine norm_K fun K hK => ?_
  change wpList _ _ _ [_] _ _
  go_wp2_with fail
  refine (nums_c hy hY hsz.1 hsz.2).mono ?_; rintro e w4 ⟨v2, rfl, h2, hb4⟩
  have hs := hs.below hb4; have hx := hx.below hb4; have hy := hy.below hb4; have d0 := kept hb4 d0; have d1 := kept hb4 d1; have e0 := kept hb4 e0; have e1 := kept hb4 e1; have f0 := kept hb4 f0; have f1 := kept hb4 f1; have hr := hr.below hb4; have h1 := h1.below hb4
  go_wp2_with fail
  have hz2 : Below wq.heap.size wq w4 := (by repeat (first | exact .refl _ _ | apply bwD | apply bwA | (refine bwS ?_ (by first | omega | simp <;> omega) _) | refine bwC ?_ (by assumption)))
  first | (refine hK _ _ ⟨hz2, ?_⟩; clear hK K) | refine ⟨hz2, ?_⟩
  clear hz2
  refine norm_K fun K hK => ?_
  change wpList _ _ _ [_] _ _
  go_wp2_with fail
  refine (plus_c (k := k) (by omega) (by omega) hk1 hk2 h1.sl h2.sl SX SY (by rw [LX.out, LY.out]) (by rw [LX.out]; omega)).mono ?_; rintro e w5 ⟨v3, rfl, h3, hb5⟩
  have hs := hs.below hb5; have hx := hx.below hb5; have hy := hy.below hb5; have d0 := kept hb5 d0; have d1 := kept hb5 d1; have e0 := kept hb5 e0; have e1 := kept hb5 e1; have f0 := kept hb5 f0; have f1 := kept hb5 f1; have hr := hr.below hb5; have h1 := h1.below hb5; have h2 := h2.below hb5
  go_wp2_with fail
  have hz3 : Below wq.heap.size wq w5 := (by repeat (first | exact .refl _ _ | apply bwD | apply bwA | (refine bwS ?_ (by first | omega | simp <;> omega) _) | refine bwC ?_ (by assumption)))
  first | (refine hK _ _ ⟨hz3, ?_⟩; clear hK K) | refine ⟨hz3, ?_⟩
  clear hz3
  refine norm_K fun K hK => ?_
  change wpList _ _ _ [_, _] _ _
  rw [HPL.out] at h3
  have hzc : wq.heap.size ≤ (w5).heap.size := (below_le (by repeat (first | exact .refl _ _ | apply bwD | apply bwA | (refine bwS ?_ (by first | omega | simp <;> omega) _) | refine bwC ?_ (by assumption))))
  go_wp2_with fail
  refine (hcon _ _ _ _ hs h3.el HLS.out).mono ?_; rintro e w6 ⟨v4, rfl, hv, hb6⟩
  have hs := hs.below hb6; have hx := hx.below hb6; have hy := hy.below hb6; have d0 := kept hb6 d0; have d1 := kept hb6 d1; have e0 := kept hb6 e0; have e1 := kept hb6 e1; have f0 := kept hb6 f0; have f1 := kept hb6 f1; have hr := hr.below hb6; have h1 := h1.below hb6; have h2 := h2.below hb6; have h3 := h3.below hb6
  change FrH _ _ _ (splitH n (numsH (sumH p X k Y))) at hv
  rw [HSP.out] at hv
  obtain ⟨d, u, us, rfl, ⟨g1, cap1, rfl, h1⟩, hu, hne⟩ := id hv
  obtain ⟨g2, cap2, rfl, _⟩ := id hu
  have hul : us.length = 3 := by obtain ⟨_, _, _, _, h, _⟩ := hu; rw [h, HS4.out]
  have HU := Lib.hid hul; clear hul
  have rc0 := hr.c0; have rc1 := hr.c1; have rf0 := hr.f0; have rf1 := hr.f1
  go_wp2_with fail
  first | (refine hK _ _ ⟨rfl, ?_⟩; clear hK K) | refine ⟨rfl, ?_⟩
  go_wp2_with fail
  refine bodyPost_ret (v := .agg #[.slice (some ⟨g1, 0, none⟩) (sumH p X k Y).dg.length cap1, .slice (some ⟨g2, 0, none⟩) us.length cap2]) (by simp [results, Tryz.results100, go_sem, rc0, rc1, HU.out, HS4.out]) rfl ⟨_, rfl, ?_, ?_⟩
  · exact ((hv.set_ (by first | omega | simp <;> omega) _).set_ (by first | omega | simp <;> omega) _).more (below_le (by repeat (first | exact .refl _ _ | apply bwD | apply bwA | (refine bwS ?_ (by first | omega | simp <;> omega) _) | refine bwC ?_ (by assumption))))
  · exact bwS (bwS (by repeat (first | exact .refl _ _ | apply bwD | apply bwA | (refine bwS ?_ (by first | omega | simp <;> omega) _) | refine bwC ?_ (by assumption))) (by first | omega | simp <;> omega) _) (by first | omega | simp <;> omega) _
set_option maxRecDepth 100000 in
theorem mult_c {p k : Int} {s x : Value} {st : List Int} {X : Her} {w : World} (hd : Dok p st) (hs : El w s st) (hx : Hv w x X) (hX : isH p (sz st.length) X = true) (hk1 : -1000000 ≤ k) (hk2 : k ≤ 1000000) :
    Calls Tryz.prog 41 #[.agg #[.int .i64 p, s], x, .int .i64 k] w fun e w' => ∃ v, e = .returned v ∧ FrH w' w.heap.size v (multH p X k) ∧ Below w.heap.size w w' := by
  have hp1 := hd.hp.lo
  have hp2 := hd.hp.hi
  have hsz := sz_le hd
  have hl3 := hd.hl
  have hS := multH_is (p := p) (k := k) (by omega) hX
  have hsp := split_nums hS
  have hpl := scale_nums (p := p) (k := k) ⟨_, hX⟩
  have hlS := nums_len hS
  have SX := (isH_nums hX hsz.1).2.2.2.2.sm (M := 1000000) (by omega) (by omega)
  have LX := Lib.hid (nums_len hX)
  have HSP := Lib.hid hsp; have HPL := Lib.hid hpl
  have hS3 := (isH_nums hS hsz.1).1; have hS4 := (isH_nums hS hsz.1).2.1
  have HS3 := Lib.hid hS3; have HS4 := Lib.hid hS4
  obtain ⟨n, hn⟩ : ∃ n, n = sz st.length := ⟨_, rfl⟩
  rw [← hn] at hsz
  have hcon := fun (W : World) (s x : Value) (xs : List Int) (hs : El W s st) hx hl => herm_c (w := W) (p := p) (s := s) (x := x) (xs := xs) hs hl3 hn hx hl
  rw [← hn] at LX hlS hX HSP
  have HLS := Lib.hid hlS
  clear hn hsp hpl hS hlS hS3 hS4
  obtain ⟨a0, c0, rfl, _⟩ := id hs.op
  obtain ⟨dv1, uv1, rfl, hd1_, hu1_⟩ := id hx; obtain ⟨a1, c1, rfl, _⟩ := id hd1_.op; obtain ⟨b1, k1, rfl, _⟩ := id hu1_; clear hd1_ hu1_
  go_enter Tryz.func41, Tryz.ntmps41
  have hb0 : Below w.heap.size w (((w.alloc (.cells #[.int .i64 p, .slice a0 st.length c0] 26)).alloc (.cells #[.slice a1 X.dg.length c1, .slice b1 X.up.length k1] 31)).alloc (.cells #[.slice none 0 0, .slice none 0 0] 31)) := (by repeat (first | exact .refl _ _ | apply bwD | apply bwA | (refine bwS ?_ (by first | omega | simp <;> omega) _) | refine bwC ?_ (by assumption)))
  have hs := hs.below hb0; have hx := hx.below hb0
  have d0 : (((w.alloc (.cells #[.int .i64 p, .slice a0 st.length c0] 26)).alloc (.cells #[.slice a1 X.dg.length c1, .slice b1 X.up.length k1] 31)).alloc (.cells #[.slice none 0 0, .slice none 0 0] 31)).cell? ⟨w.heap.size, 0, none⟩ = some (.int .i64 p) := by simp [go_sem]
  have d1 : (((w.alloc (.cells #[.int .i64 p, .slice a0 st.length c0] 26)).alloc (.cells #[.slice a1 X.dg.length c1, .slice b1 X.up.length k1] 31)).alloc (.cells #[.slice none 0 0, .slice none 0 0] 31)).cell? ⟨w.heap.size, 1, none⟩ = some (.slice a0 st.length c0) := by simp [go_sem]
  have e0 : (((w.alloc (.cells #[.int .i64 p, .slice a0 st.length c0] 26)).alloc (.cells #[.slice a1 X.dg.length c1, .slice b1 X.up.length k1] 31)).alloc (.cells #[.slice none 0 0, .slice none 0 0] 31)).cell? ⟨w.heap.size + 1, 0, none⟩ = some (.slice a1 X.dg.length c1) := by simp [go_sem]
  have e1 : (((w.alloc (.cells #[.int .i64 p, .slice a0 st.length c0] 26)).alloc (.cells #[.slice a1 X.dg.length c1, .slice b1 X.up.length k1] 31)).alloc (.cells #[.slice none 0 0, .slice none 0 0] 31)).cell? ⟨w.heap.size + 1, 1, none⟩ = some (.slice b1 X.up.length k1) := by simp [go_sem]
  have r0 : (((w.alloc (.cells #[.int .i64 p, .slice a0 st.length c0] 26)).alloc (.cells #[.slice a1 X.dg.length c1, .slice b1 X.up.length k1] 31)).alloc (.cells #[.slice none 0 0, .slice none 0 0] 31)).cell? ⟨w.heap.size + 1 + 1, 0, none⟩ = some (.slice none 0 0) := by simp [go_sem]
  have r1 : (((w.alloc (.cells #[.int .i64 p, .slice a0 st.length c0] 26)).alloc (.cells #[.slice a1 X.dg.length c1, .slice b1 X.up.length k1] 31)).alloc (.cells #[.slice none 0 0, .slice none 0 0] 31)).cell? ⟨w.heap.size + 1 + 1, 1, none⟩ = some (.slice none 0 0) := by simp [go_sem]
  have hr : Bx (((w.alloc (.cells #[.int .i64 p, .slice a0 st.length c0] 26)).alloc (.cells #[.slice a1 X.dg.length c1, .slice b1 X.up.length k1] 31)).alloc (.cells #[.slice none 0 0, .slice none 0 0] 31)) (w.heap.size + 1 + 1) (.slice none 0 0) (.slice none 0 0) := by rw [show w.heap.size + 1 + 1 = ((w.alloc (.cells #[.int .i64 p, .slice a0 st.length c0] 26)).alloc (.cells #[.slice a1 X.dg.length c1, .slice b1 X.up.length k1] 31)).heap.size by simp]; exact heap_alloc_new _ _
  go_wp2_with fail
  refine region_flow [(false, [(0, 1), (1, 1), (3, 1), (5, 0), (2, 5)]), (false, [(4, 5)]), (false, [(6, 5)]), (false, [(7, 4), (8, 4)])] (by kernel_rfl) ?_
  refine norm_K fun K hK => ?_
  change wpList _ _ _ [_, _, _, _, _] _ _
  have hb1 : Below (((w.alloc (.cells #[.int .i64 p, .slice a0 st.length c0] 26)).alloc (.cells #[.slice a1 X.dg.length c1, .slice b1 X.up.length k1] 31)).alloc (.cells #[.slice none 0 0, .slice none 0 0] 31)).heap.size (((w.alloc (.cells #[.int .i64 p, .slice a0 st.length c0] 26)).alloc (.cells #[.slice a1 X.dg.length c1, .slice b1 X.up.length k1] 31)).alloc (.cells #[.slice none 0 0, .slice none 0 0] 31)) (((w.alloc (.cells #[.int .i64 p, .slice a0 st.length c0] 26)).alloc (.cells #[.slice a1 X.dg.length c1, .slice b1 X.up.length k1] 31)).alloc (.cells #[.slice none 0 0, .slice none 0 0] 31)).drew := (by repeat (first | exact .refl _ _ | apply bwD | apply bwA | (refine bwS ?_ (by first | omega | simp <;> omega) _) | refine bwC ?_ (by assumption)))
  have hs := hs.below hb1; have hx := hx.below hb1; have d0 := kept hb1 d0; have d1 := kept hb1 d1; have e0 := kept hb1 e0; have e1 := kept hb1 e1; have hr := hr.below hb1
  generalize (((w.alloc (.cells #[.int .i64 p, .slice a0 st.length c0] 26)).alloc (.cells #[.slice a1 X.dg.length c1, .slice b1 X.up.length k1] 31)).alloc (.cells #[.slice none 0 0, .slice none 0 0] 31)).drew = wq at *
  have hzq := below_le (show Below ((((w.alloc (.cells #[.int .i64 p, .slice a0 st.length c0] 26)).alloc (.cells #[.slice a1 X.dg.length c1, .slice b1 X.up.length k1] 31)).alloc (.cells #[.slice none 0 0, .slice none 0 0] 31))).heap.size ((((w.alloc (.cells #[.int .i64 p, .slice a0 st.length c0] 26)).alloc (.cells #[.slice a1 X.dg.length c1, .slice b1 X.up.length k1] 31)).alloc (.cells #[.slice none 0 0, .slice none 0 0] 31))) wq from (by repeat (first | exact .refl _ _ | apply bwD | apply bwA | (refine bwS ?_ (by first | omega | simp <;> omega) _) | refine bwC ?_ (by assumption))))
  simp at hzq
  go_wp2_with fail
  refine (dfield_c).mono ?_; rintro e w2 ⟨rfl, hb2⟩
  have hs := hs.below hb2; have hx := hx.below hb2; have d0 := kept hb2 d0; have d1 := kept hb2 d1; have e0 := kept hb2 e0; have e1 := kept hb2 e1; have hr := hr.below hb2
  go_wp2_with fail
  have hz0 : Below wq.heap.size wq w2 := (by repeat (first | exact .refl _ _ | apply bwD | apply bwA | (refine bwS ?_ (by first | omega | simp <;> omega) _) | refine bwC ?_ (by assumption)))
  first | (refine hK _ _ ⟨hz0, ?_⟩; clear hK K) | refine ⟨hz0, ?_⟩
  clear hz0
  refine norm_K fun K hK => ?_
  change wpList _ _ _ [_] _ _
  go_wp2_with fail
  refine (nums_c hx hX hsz.1 hsz.2).mono ?_; rintro e w3 ⟨v1, rfl, h1, hb3⟩
  have hs := hs.below hb3; have hx := hx.below hb3; have d0 := kept hb3 d0; have d1 := kept hb3 d1; have e0 := kept hb3 e0; have e1 := kept hb3 e1; have hr := hr.below hb3
  go_wp2_with fail
  have hz1 : Below wq.heap.size wq w3 := (by repeat (first | exact .refl _ _ | apply bwD | apply bwA | (refine bwS ?_ (by first | omega | simp <;> omega) _) | refine bwC ?_ (by assumption)))
  first | (refine hK _ _ ⟨hz1, ?_⟩; clear hK K) | refine ⟨hz1, ?_⟩
  clear hz1
  refine norm_K fun K hK => ?_
  change wpList _ _ _ [_] _ _
  go_wp2_with fail
  refine (scaled_c (k := k) (by omega) (by omega) hk1 hk2 h1.sl SX (by rw [LX.out]; omega)).mono ?_; rintro e w4 ⟨v3, rfl, h3, hb4⟩
  have hs := hs.below hb4; have hx := hx.below hb4; have d0 := kept hb4 d0; have d1 := kept hb4 d1; have e0 := kept hb4 e0; have e1 := kept hb4 e1; have hr := hr.below hb4; have h1 := h1.below hb4
  go_wp2_with fail
  have hz2 : Below wq.heap.size wq w4 := (by repeat (first | exact .refl _ _ | apply bwD | apply bwA | (refine bwS ?_ (by first | omega | simp <;> omega) _) | refine bwC ?_ (by assumption)))
  first | (refine hK _ _ ⟨hz2, ?_⟩; clear hK K) | refine ⟨hz2, ?_⟩
  clear hz2
  refine norm_K fun K hK => ?_
  change wpList _ _ _ [_, _] _ _
  rw [HPL.out] at h3
  have hzc : wq.heap.size ≤ (w4).heap.size := (below_le (by repeat (first | exact .refl _ _ | apply bwD | apply bwA | (refine bwS ?_ (by first | omega | simp <;> omega) _) | refine bwC ?_ (by assumption))))
  go_wp2_with fail
  refine (hcon _ _ _ _ hs h3.el HLS.out).mono ?_; rintro e w5 ⟨v4, rfl, hv, hb5⟩
  have hs := hs.below hb5; have hx := hx.below hb5; have d0 := kept hb5 d0; have d1 := kept hb5 d1; have e0 := kept hb5 e0; have e1 := kept hb5 e1; have hr := hr.below hb5; have h1 := h1.below hb5; have h3 := h3.below hb5
  change FrH _ _ _ (splitH n (numsH (multH p X k))) at hv
  rw [HSP.out] at hv
  obtain ⟨d, u, us, rfl, ⟨g1, cap1, rfl, h1⟩, hu, hne⟩ := id hv
  obtain ⟨g2, cap2, rfl, _⟩ := id hu
  have hul : us.length = 3 := by obtain ⟨_, _, _, _, h, _⟩ := hu; rw [h, HS4.out]
  have HU := Lib.hid hul; clear hul
  have rc0 := hr.c0; have rc1 := hr.c1; have rf0 := hr.f0; have rf1 := hr.f1
  go_wp2_with fail
  first | (refine hK _ _ ⟨rfl, ?_⟩; clear hK K) | refine ⟨rfl, ?_⟩
  go_wp2_with fail
  refine bodyPost_ret (v := .agg #[.slice (some ⟨g1, 0, none⟩) (multH p X k).dg.length cap1, .slice (some ⟨g2, 0, none⟩) us.length cap2]) (by simp [results, Tryz.results41, go_sem, rc0, rc1, HU.out, HS4.out]) rfl ⟨_, rfl, ?_, ?_⟩
  · exact ((hv.set_ (by first | omega | simp <;> omega) _).set_ (by first | omega | simp <;> omega) _).more (below_le (by repeat (first | exact .refl _ _ | apply bwD | apply bwA | (refine bwS ?_ (by first | omega | simp <;> omega) _) | refine bwC ?_ (by assumption))))
  · exact bwS (bwS (by repeat (first | exact .refl _ _ | apply bwD | apply bwA | (refine bwS ?_ (by first | omega | simp <;> omega) _) | refine bwC ?_ (by assumption))) (by first | omega | simp <;> omega) _) (by first | omega | simp <;> omega) _
end Go.Proofs.YtgcelfnjijhmkaaGreat
