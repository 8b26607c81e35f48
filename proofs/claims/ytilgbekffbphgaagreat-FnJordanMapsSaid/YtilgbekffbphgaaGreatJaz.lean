/- Texts joined for a claim: HcK, HcP, HcL, HcM, HcS, HcT, CJordanSum, LJordanDeterminant, LJordanPairing. -/
import Derived.Test.YtilgbekffbphgaaGreatHcJ
import Derived.Test.YtilgbekffbphgaaGreatJak
import Derived.Test.YtilgbekffbphgaaGreatJal
import Derived.Test.YtilgbekffbphgaaGreatHcR
import Derived.Test.YtilgbekffbphgaaGreatHcD
namespace Go.Proofs.YtilgbekffbphgaaGreat
open Go.RowKit
theorem jordanH_is {p : Int} {st : List Int} {X Y : Her} (hp : 2 <= p) (hX : isH p (sz st.length) X = true) (hY : isH p (sz st.length) Y = true) : isH p (sz st.length) (jordanH p st X Y) = true :=
 isH_mk ((halfH_ev hp hX hY (i := 0) (j := 0) (by omega) (by omega)).2.g0 (by omega) 0) ((halfH_ev hp hX hY (i := 1) (j := 1) (by omega) (by omega)).2.g0 (by omega) 0) ((halfH_ev hp hX hY (i := 2) (j := 2) (by omega) (by omega)).2.g0 (by omega) 0)
  (halfH_ev hp hX hY (by omega) (by omega)) (halfH_ev hp hX hY (by omega) (by omega)) (halfH_ev hp hX hY (by omega) (by omega))
def RJordanTimes1 (p : Int) (st : List Int) (X Y : Her) : Int := chkH p st [X, Y]
def RJordanTimes0 (p : Int) (st : List Int) (X Y : Her) : Her := if chkH p st [X, Y] = 0 then jordanH p st X Y else ⟨[], []⟩
set_option maxHeartbeats 1000000 in
set_option maxRecDepth 100000 in
theorem iJordanTimes_c {p0 : Int} {x0 : Value} {st0 : List Int} {x1 : Value} {X1 : Her} {x2 : Value} {X2 : Her} {w : World} (hx0 : El w x0 st0) (hm0 : st0.length <= 1048576) (hx1 : Hv w x1 X1) (hz1 : Hsz X1) (hx2 : Hv w x2 X2) (hz2 : Hsz X2) :
  Calls Tryz.prog 35 #[.agg #[.int .i64 p0, x0], x1, x2] w fun e w' => ∃ v0, e = .returned (.tuple #[v0, .int .i64 (RJordanTimes1 p0 st0 X1 X2)]) /\ OwH w' w.heap.size v0 (RJordanTimes0 p0 st0 X1 X2) /\ Below w.heap.size w w' := by
 obtain ⟨a0, c0, rfl, _⟩ := id hx0.op
 obtain ⟨dv1, uv1, rfl, hd1_, hu1_⟩ := id hx1; obtain ⟨a1, c1, rfl, _⟩ := id hd1_.op; obtain ⟨b1, e1, rfl, _⟩ := id hu1_; clear hd1_ hu1_
 obtain ⟨dv2, uv2, rfl, hd2_, hu2_⟩ := id hx2; obtain ⟨a2, c2, rfl, _⟩ := id hd2_.op; obtain ⟨b2, e2, rfl, _⟩ := id hu2_; clear hd2_ hu2_
 obtain ⟨W, hW⟩ : ∃ W, W = (((((w.alloc (.cells #[.int .i64 p0, .slice a0 st0.length c0] 26)).alloc (.cells #[.slice a1 X1.dg.length c1, .slice b1 X1.up.length e1] 29)).alloc (.cells #[.slice a2 X2.dg.length c2, .slice b2 X2.up.length e2] 29)).alloc (.cells #[.slice none 0 0, .slice none 0 0] 29)).alloc (.cells #[.slice a1 X1.dg.length c1, .slice b1 X1.up.length e1, .slice a2 X2.dg.length c2, .slice b2 X2.up.length e2] 29)) := ⟨_, rfl⟩
 have hbW : Below w.heap.size w W := by rw [hW]; exact bwT
 have hx0 := hx0.below hbW
 have hx1 := hx1.below hbW
 have hx2 := hx2.below hbW
 have d00 : W.cell? ⟨w.heap.size, 0, none⟩ = some (.int .i64 p0) := by rw [hW]; simp [go_sem]
 have d01 : W.cell? ⟨w.heap.size, 1, none⟩ = some (.slice a0 st0.length c0) := by rw [hW]; simp [go_sem]
 have d10 : W.cell? ⟨w.heap.size + 1, 0, none⟩ = some (.slice a1 X1.dg.length c1) := by rw [hW]; simp [go_sem]
 have d11 : W.cell? ⟨w.heap.size + 1, 1, none⟩ = some (.slice b1 X1.up.length e1) := by rw [hW]; simp [go_sem]
 have d20 : W.cell? ⟨w.heap.size + 1 + 1, 0, none⟩ = some (.slice a2 X2.dg.length c2) := by rw [hW]; simp [go_sem]
 have d21 : W.cell? ⟨w.heap.size + 1 + 1, 1, none⟩ = some (.slice b2 X2.up.length e2) := by rw [hW]; simp [go_sem]
 have hr : Bx W (w.heap.size + 1 + 1 + 1) (.slice none 0 0) (.slice none 0 0) := by rw [hW]; exact Bx.below (by unfold Bx; rw [show w.heap.size + 1 + 1 + 1 = (((w.alloc (.cells #[.int .i64 p0, .slice a0 st0.length c0] 26)).alloc (.cells #[.slice a1 X1.dg.length c1, .slice b1 X1.up.length e1] 29)).alloc (.cells #[.slice a2 X2.dg.length c2, .slice b2 X2.up.length e2] 29)).heap.size by simp]; exact heap_alloc_new _ _) bwT
 have hWs : W.heap.size = w.heap.size + 1 + 1 + 1 + 1 + 1 := by rw [hW]; simp
 have gl : Lh W (.slice (some ⟨w.heap.size + 1 + 1 + 1 + 1, 0, none⟩) 2 2) [X1, X2] := Lh.two hx1 (by rw [hW]; simp [go_sem]) (by rw [hW]; simp [go_sem]) hx2 (by rw [hW]; simp [go_sem]) (by rw [hW]; simp [go_sem])
 have hcon := chkh_c (p := p0) hx0 hm0 gl (by intro X hX; simp at hX; rcases hX with rfl | rfl <;> assumption) (by simp)
 have HWs := Lib.hid hWs; clear hWs
 rw [hW] at hcon
 by_cases h0 : chkH p0 st0 [X1, X2] = 0
 ·rw [h0] at hcon
  obtain ⟨hd, hall⟩ := chkH_pos h0
  have hX1 : isH p0 (sz st0.length) X1 = true := by simp at hall; exact hall.1
  have hX2 : isH p0 (sz st0.length) X2 = true := by simp at hall; exact hall.2
  rw [show RJordanTimes0 p0 st0 X1 X2 = jordanH p0 st0 X1 X2 from if_pos h0, show RJordanTimes1 p0 st0 X1 X2 = 0 from h0]
  clear hall
  go_enter Tryz.func35, Tryz.ntmps35
  go_wp2_with fail
  refine hcon.mono ?_; rintro e w1 ⟨rfl, hb1⟩
  rw [<- hW] at hb1
  clear hW hcon
  have hx0 := hx0.below hb1; have hx1 := hx1.below hb1; have hx2 := hx2.below hb1; have d00 := kept hb1 d00; have d01 := kept hb1 d01; have d10 := kept hb1 d10; have d11 := kept hb1 d11; have d20 := kept hb1 d20; have d21 := kept hb1 d21; have hr := hr.below hb1
  go_wp2_with fail
  refine (jordan_c hd hx0 hx1 hX1 hx2 hX2).mono ?_; rintro e w22 ⟨v, rfl, hv, hb22⟩
  have hx0 := hx0.below hb22; have hx1 := hx1.below hb22; have hx2 := hx2.below hb22; have d00 := kept hb22 d00; have d01 := kept hb22 d01; have d10 := kept hb22 d10; have d11 := kept hb22 d11; have d20 := kept hb22 d20; have d21 := kept hb22 d21; have hr := hr.below hb22
  obtain ⟨d, u, us, rfl, ⟨g1, cap1, rfl, h1⟩, hu, hne⟩ := id hv
  obtain ⟨g2, cap2, rfl, _⟩ := id hu
  have hul : us.length = 3 := by obtain ⟨_, _, _, _, h, _⟩ := hu; exact h
  have HU := Lib.hid hul; clear hul
  have hu3 : (jordanH p0 st0 X1 X2).up.length = 3 := rfl
  have hu4 : (jordanH p0 st0 X1 X2).dg.length = 3 := rfl
  have hz1_ : w.heap.size + 1 + 1 + 1 + 1 + 1 <= w1.heap.size := by have := hb1.size; have := HWs.out; omega
  have rc0 := hr.c0; have rc1 := hr.c1; have rf0 := hr.f0; have rf1 := hr.f1
  go_wp2_with fail
  refine bodyPost_ret (v := .tuple #[.agg #[.slice (some ⟨g1, 0, none⟩) (jordanH p0 st0 X1 X2).dg.length cap1, .slice (some ⟨g2, 0, none⟩) us.length cap2], .int .i64 0]) (by simp [results, Tryz.results35, go_sem, rc0, rc1, HU.out, hu3, hu4]) rfl ⟨_, rfl, .inr ?_, ?_⟩
  ·exact ((hv.set_ (by first | omega | simp <;> omega) _).set_ (by first | omega | simp <;> omega) _).more (below_le bwT)
  ·exact bwS (bwS bwT (by first | omega | simp <;> omega) _) (by first | omega | simp <;> omega) _
 ·rw [show RJordanTimes0 p0 st0 X1 X2 = ⟨[], []⟩ from if_neg h0, show RJordanTimes1 p0 st0 X1 X2 = chkH p0 st0 [X1, X2] from rfl]
  obtain ⟨k, hk⟩ : ∃ k, k = chkH p0 st0 [X1, X2] := ⟨_, rfl⟩
  rw [<- hk] at h0 hcon ⊢
  clear hk
  have hne : (k == 0) = false := by simpa using h0
  go_enter Tryz.func35, Tryz.ntmps35
  go_wp2_with fail
  refine hcon.mono ?_; rintro e w1 ⟨rfl, hb1⟩
  rw [<- hW] at hb1
  clear hW hcon
  have hr := hr.below hb1
  have rc0 := hr.c0; have rc1 := hr.c1; have rf0 := hr.f0; have rf1 := hr.f1
  go_wp2_with fail
  refine bodyPost_ret (v := .tuple #[.agg #[.slice none 0 0, .slice none 0 0], .int .i64 k]) (by simp [results, Tryz.results35, go_sem, rc0, rc1]) rfl ⟨_, rfl, .inl ⟨rfl, rfl⟩, ?_⟩
  exact bwS (bwS bwT (by first | omega | simp <;> omega) _) (by first | omega | simp <;> omega) _
structure OutU (w : World) (N : Nat) (dv uv : Value) (us : List Value) (up : List (List Int)) : Prop where
 bx : Bx w N dv uv
 ou : OwV w (N + 1) uv us
 rows : RowsA w (N + 1) us up
theorem OutU.below {w w' : World} {N : Nat} {dv uv : Value} {us : List Value} {up : List (List Int)} (h : OutU w N dv uv us up) (hb : Below w.heap.size w w') : OutU w' N dv uv us up := ⟨h.bx.below hb, h.ou.below hb, h.rows.below hb⟩
theorem OutU.row {W w' : World} {N : Nat} {dv uv : Value} {us : List Value} {up : List (List Int)} (h : OutU W N dv uv us up) {z nv : Value} {xs : List Int} (hz : FrI W (N + 1) z xs) (hne : ∀ y ∈ us, y.ownBlock ≠ z.ownBlock) (ho : OwV w' (N + 1) nv (us ++ [z])) (hb : Below (N + 1) W w') (hg : W.grownBy w' uv.ownBlock) :
  OutU (w'.setCell ⟨N, 1, none⟩ nv) N dv nv (us ++ [z]) (up ++ [xs]) :=
 ⟨(h.bx.bl hb (Nat.lt_succ_self _)).set1 nv, ho.set_ (Nat.lt_succ_self _) _, ((h.rows.app h.ou hg).snoc (hz.app h.ou hg) hne).set_ (Nat.lt_succ_self _) _⟩

theorem flat_le {xss : List (List Int)} : ∀ k, (xss.take k).flatten.length <= xss.flatten.length := by
 intro k
 have h := congrArg List.flatten (List.take_append_drop k xss)
 rw [List.flatten_append] at h
 rw [<- h, List.length_append]; omega
def totN (xss : List (List Int)) : Nat := xss.flatten.length
theorem totN_snoc {xss : List (List Int)} {xs : List Int} : totN (xss ++ [xs]) = totN xss + xs.length := by unfold totN; rw [List.flatten_append, List.length_append]; simp
set_option maxHeartbeats 1000000 in
set_option maxRecDepth 100000 in
theorem concat_c {x : Value} {xss : List (List Int)} {w : World} (hx : Re w x xss) (hne : ∀ xs ∈ xss, 0 < xs.length) (hn : 0 < xss.length) (hm : xss.flatten.length <= 1000) (hm2 : xss.length <= 1000) :
  Calls Tryz.prog 107 #[x] w fun e w' => ∃ v, e = .returned v /\ FrI w' w.heap.size v xss.flatten /\ Below w.heap.size w w' := by
 obtain ⟨a, c, rfl, h1, h2, hx⟩ := hx
 rcases hx with rfl | ⟨b, off, rfl, hx⟩
 ·simp at hn
 have hpos : 0 < xss.flatten.length := by
  match xss, hn with
  | y :: ys, _ => have := hne y (by simp); simp; omega
 have hle := Lib.hid (show ∀ k, totN (xss.take k) <= totN xss from flat_le (xss := xss))
 change 0 < totN xss at hpos; change totN xss <= 1000 at hm
 have hx0 : ∀ j (h : j < xss.length), ∃ u, w.cell? ⟨b, off + j, none⟩ = some u /\ El w u xss[j] := hx
 have HX := Lib.hid hx; clear hx
 go_enter Tryz.func107, Tryz.ntmps107
 go_wp2
 go_loop [3, 11] (fun q i => ∃ k : Nat, k <= xss.length /\ i = .int .i64 k /\ q = .int .i64 (totN (xss.take k) : Nat)) (fun _ i => xss.length - (intOf i).toNat)
 case atStart => exact ⟨0, Nat.zero_le _, rfl, rfl⟩
 case round =>
  obtain ⟨k, hk, rfl, rfl⟩ := hrel
  by_cases hlt : k < xss.length
  ·obtain ⟨a1, c1, xs, hxs, hc, he, ht⟩ := Re.get HX.out hlt
   have hf := hle.out (k + 1)
   rw [ht, totN_snoc] at hf
   have hxl : xs.length <= 1000 := by omega
   obtain ⟨m, hmm⟩ : ∃ m, m = totN (xss.take k) := ⟨_, rfl⟩
   rw [<- hmm] at hf ⊢
   have HT := Lib.hid ht; have HMM := Lib.hid hmm; clear ht hmm
   have hneg : ¬ ((m : Int) + (xs.length : Int) < 0) := by omega
   go_wp2
   go_round
   case rel => exact ⟨k + 1, by omega, by go_num, by rw [HT.out, totN_snoc, <- HMM.out]; go_num⟩
   case measure => simp [intOf]; omega
  ·obtain rfl : k = xss.length := by omega
   rw [show totN (xss.take xss.length) = totN xss by rw [List.take_length]]
   obtain ⟨S, hS⟩ : ∃ S, S = totN xss := ⟨_, rfl⟩
   rw [<- hS] at hpos hm ⊢
   have HS := Lib.hid hS; clear hS
   go_wp2_with fail
   refine (grow_c hpos hm).mono ?_; rintro e w1 ⟨g, cap, rfl, ho, hb⟩
   go_wp2
   go_loopw [6, 27] (fun q i wr => ∃ (k g cap m : Nat), k <= xss.length /\ i = .int .i64 k /\ q = .slice (some ⟨g, 0, none⟩) m cap /\ m = totN (xss.take k) /\ OwnI wr w.heap.size g m cap (xss.take k).flatten /\ Below w.heap.size w wr) (fun _ i _ => xss.length - (intOf i).toNat)
   case atStart => exact ⟨0, g, cap, 0, Nat.zero_le _, rfl, rfl, rfl, ho, hb⟩
   case round =>
    clear ho hb
    obtain ⟨k, gg, cc, m, hk, rfl, rfl, hmk, ho, hb⟩ := hrel
    by_cases hlt : k < xss.length
    ·obtain ⟨a1, c1, xs, hxs, hc, he, ht⟩ := Re.get HX.out hlt
     have hf := hle.out (k + 1)
     rw [ht, totN_snoc, <- hmk, <- HS.out] at hf
     have hxp := hne xs hxs
     have hc := kept hb hc
     obtain ⟨b1, o1, c2, e2, _, _, hA⟩ := (he.below hb).op1 hxp
     cases e2
     have HT := Lib.hid ht; have HMM := Lib.hid hmk; clear ht hmk
     obtain ⟨ys, hys⟩ : ∃ ys, ys = (xss.take k).flatten := ⟨_, rfl⟩
     rw [<- hys] at ho
     have HYS := Lib.hid hys; clear hys
     go_wp2_with (at_builtin; refine app_int rfl _ _ rfl wr w.heap.size gg m cc ys rfl b1 o1 xs.length c1 xs rfl ho hb.size hA rfl hxp (by omega) ?_; intro g' cap' w' ho' hg' hge)
     go_roundw
     case rel => exact ⟨k + 1, g', cap', m + xs.length, by omega, by go_num, rfl, by rw [HT.out, totN_snoc, <- HMM.out], by rw [HT.out, List.flatten_append, <- HYS.out]; simpa using ho', blw_grown hb hg' ho.lt.1⟩
     case measure => simp [intOf]; omega
    ·obtain rfl : k = xss.length := by omega
     have e : xss.take xss.length = xss := List.take_length
     rw [e] at hmk ho
     clear e
     have HMM := Lib.hid hmk; clear hmk
     go_wp2
     go_ret
     refine ⟨_, rfl, ⟨gg, cc, ?_, ?_⟩, hb⟩
     ·rw [HMM.out]; rfl
     ·have e := HMM.out; subst e; exact ho
theorem isH_nums {p : Int} {n : Nat} {X : Her} (h : isH p n X = true) (hn : 1 <= n) : X.dg.length = 3 /\ X.up.length = 3 /\ (∀ xs ∈ X.up, 0 < xs.length) /\ totN X.up = n + n + n /\ Fp p (numsH X) := by
 obtain ⟨a, b, c, u, v, t, rfl, h1, h2, h3, h4, h5, h6, eu, ev, et⟩ := isH_op h
 have e1 := eu.1; have e2 := ev.1; have e3 := et.1
 refine ⟨rfl, rfl, fun xs hx => ?_, ?_, ?_⟩
 ·simp only [List.mem_cons, List.not_mem_nil, or_false] at hx
  rcases hx with rfl | rfl | rfl <;> omega
 ·unfold totN; simp; omega
 ·unfold numsH
  refine fp_app (fun x hx => ?_) ?_
  ·simp only [List.mem_cons, List.not_mem_nil, or_false] at hx
   rcases hx with rfl | rfl | rfl <;> omega
  ·simp only [List.flatten_cons, List.flatten_nil, List.append_nil]
   exact fp_app eu.2 (fp_app ev.2 et.2)
theorem nums_len {p : Int} {n : Nat} {X : Her} (h : isH p n X = true) : (numsH X).length = 3 + (n + n + n) := by
 obtain ⟨a, b, c, u, v, t, rfl, _, _, _, _, _, _, eu, ev, et⟩ := isH_op h
 have e1 := eu.1; have e2 := ev.1; have e3 := et.1
 unfold numsH; simp; omega
set_option maxRecDepth 100000 in
theorem nums_c {p : Int} {n : Nat} {x : Value} {X : Her} {w : World} (hx : Hv w x X) (hX : isH p n X = true) (hn : 1 <= n) (hn2 : n <= 8) :
  Calls Tryz.prog 78 #[x] w fun e w' => ∃ v, e = .returned v /\ FrI w' w.heap.size v (numsH X) /\ Below w.heap.size w w' := by
 obtain ⟨hdl, hul, hpos, htot, _⟩ := isH_nums hX hn
 obtain ⟨dv, uv, rfl, hd, hu⟩ := id hx
 obtain ⟨a1, c1, rfl, _⟩ := id hd.op
 obtain ⟨b1, k1, rfl, _⟩ := id hu
 have HD := Lib.hid hdl; have HU := Lib.hid hul; have HT := Lib.hid htot
 have hpu : 0 < X.up.length := by omega
 have hm : X.up.flatten.length <= 1000 := by change totN X.up <= 1000; omega
 have hm0 : 0 < X.up.flatten.length := by change 0 < totN X.up; omega
 have hfl : numsH X = [X.dg, X.up.flatten].flatten := by unfold numsH; simp
 have hd0 : 0 < X.dg.length := by omega
 have hu3 : X.up.length <= 1000 := by omega
 rw [hfl]
 have hall : ∀ xs ∈ [X.dg, X.up.flatten], 0 < xs.length := fun xs hxs => by
  simp only [List.mem_cons, List.not_mem_nil, or_false] at hxs
  rcases hxs with rfl | rfl
  ·exact hd0
  ·exact hm0
 have hlen : ([X.dg, X.up.flatten].flatten).length <= 1000 := by
  simp only [List.flatten_cons, List.flatten_nil, List.append_nil, List.length_append]
  have h2 : X.up.flatten.length = n + n + n := htot
  omega
 clear hdl hul htot hfl hx
 obtain ⟨fl, hfl⟩ : ∃ f, f = X.up.flatten := ⟨_, rfl⟩
 have hcon := fun (W : World) (x : Value) (hx : Re W x X.up) => concat_c (w := W) hx hpos hpu hm hu3
 rw [<- hfl] at hm hm0 hall hlen ⊢
 simp only [<- hfl] at hcon
 clear hfl hpos
 go_enter Tryz.func78, Tryz.ntmps78
 have hb0 : Below w.heap.size w (w.alloc (.cells #[.slice a1 X.dg.length c1, .slice b1 X.up.length k1] 29)) := bwT
 have hd := hd.below hb0; have hu := hu.below hb0
 have e0 : (w.alloc (.cells #[.slice a1 X.dg.length c1, .slice b1 X.up.length k1] 29)).cell? ⟨w.heap.size, 0, none⟩ = some (.slice a1 X.dg.length c1) := by simp [go_sem]
 have e1 : (w.alloc (.cells #[.slice a1 X.dg.length c1, .slice b1 X.up.length k1] 29)).cell? ⟨w.heap.size, 1, none⟩ = some (.slice b1 X.up.length k1) := by simp [go_sem]
 go_wp2_with fail
 refine region_flow [(false, [(0, 0), (1, 1), (2, 0), (3, 1), (4, 5)]), (false, [(5, 4), (6, 4), (7, 0)])] (by kernel_rfl) ?_
 refine norm_K fun K hK => ?_
 change wpList _ _ _ [_, _, _, _, _] _ _
 have hb1 : Below (w.alloc (.cells #[.slice a1 X.dg.length c1, .slice b1 X.up.length k1] 29)).heap.size (w.alloc (.cells #[.slice a1 X.dg.length c1, .slice b1 X.up.length k1] 29)) (w.alloc (.cells #[.slice a1 X.dg.length c1, .slice b1 X.up.length k1] 29)).drew := bwT
 have hd := hd.below hb1; have hu := hu.below hb1; have e0 := kept hb1 e0; have e1 := kept hb1 e1
 generalize (w.alloc (.cells #[.slice a1 X.dg.length c1, .slice b1 X.up.length k1] 29)).drew = wq at *
 go_wp2_with fail
 refine (hcon _ _ hu).mono ?_; rintro e w2 ⟨v1, rfl, h1, hb2⟩
 have hd := hd.below hb2; have hu := hu.below hb2; have e0 := kept hb2 e0; have e1 := kept hb2 e1
 go_wp2_with fail
 have hz0 : Below wq.heap.size wq w2 := bwT
 first | (refine hK _ _ ⟨hz0, ?_⟩; clear hK K) | refine ⟨hz0, ?_⟩
 clear hz0
 refine norm_K fun K hK => ?_
 change wpList _ _ _ [_, _, _] _ _
 obtain ⟨g1, cap1, rfl, _⟩ := id h1
 have hb3 : Below w2.heap.size w2 (w2.alloc (.cells #[.slice a1 X.dg.length c1, .slice (some ⟨g1, 0, none⟩) fl.length cap1] 24)) := bwT
 have hd := hd.below hb3; have hu := hu.below hb3; have e0 := kept hb3 e0; have e1 := kept hb3 e1; have h1 := h1.below hb3
 have l0 : (w2.alloc (.cells #[.slice a1 X.dg.length c1, .slice (some ⟨g1, 0, none⟩) fl.length cap1] 24)).cell? ⟨w2.heap.size, 0, none⟩ = some (.slice a1 X.dg.length c1) := by simp [go_sem]
 have l1 : (w2.alloc (.cells #[.slice a1 X.dg.length c1, .slice (some ⟨g1, 0, none⟩) fl.length cap1] 24)).cell? ⟨w2.heap.size, 1, none⟩ = some (.slice (some ⟨g1, 0, none⟩) fl.length cap1) := by simp [go_sem]
 go_wp2_with fail
 refine (concat_c (Re.two hd l0 h1.el l1 (c := 2) (by decide) (by decide)) hall (by simp) hlen (by simp)).mono ?_; rintro e w4 ⟨v2, rfl, h2, hb4⟩
 have hd := hd.below hb4; have hu := hu.below hb4; have e0 := kept hb4 e0; have e1 := kept hb4 e1; have h1 := h1.below hb4; have l0 := kept hb4 l0; have l1 := kept hb4 l1
 go_wp2_with fail
 first | (refine hK _ _ ⟨rfl, ?_⟩; clear hK K) | refine ⟨rfl, ?_⟩
 go_wp2_with fail
 go_ret
 exact ⟨_, rfl, h2.more (below_le bwT), bwT⟩
theorem isH_parts {p : Int} {n : Nat} {X : Her} (h : isH p n X = true) : X.dg.length = 3 /\ Fp p X.dg /\ X.up.length = 3 /\ ∀ xs ∈ X.up, Ev p n xs := by
 unfold isH at h
 simp only [Bool.and_eq_true, decide_eq_true_eq, isL_fp, List.all_eq_true, isE_iff] at h
 exact ⟨h.1.1, h.1.2, h.2.1, h.2.2⟩


end Go.Proofs.YtilgbekffbphgaaGreat
