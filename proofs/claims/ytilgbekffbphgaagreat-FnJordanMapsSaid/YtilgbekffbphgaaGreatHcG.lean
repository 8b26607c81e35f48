import Derived.Test.YtilgbekffbphgaaGreatHcF
namespace Go.Proofs.YtilgbekffbphgaaGreat
open Go.RowKit
def eopS (p : Int) (st : List Int) (X Y : Her) (i j : Nat) : Nat -> List Int
 | 0 => List.replicate (sz st.length) 0
 | k + 1 => plusL p (eopS p st X Y i j k) (mulL p st (entryH p (sz st.length) X i k) (entryH p (sz st.length) Y k j)) 1
theorem eopS_ev {p : Int} {st : List Int} {X Y : Her} {i j : Nat} (hp : 2 <= p) (hX : isH p (sz st.length) X = true) (hY : isH p (sz st.length) Y = true) (hi : i < 3) (hj : j < 3) : ∀ k, k <= 3 -> Ev p (sz st.length) (eopS p st X Y i j k)
 | 0, _ => Ev.zero (by omega)
 | k + 1, h => (eopS_ev hp hX hY hi hj k (by omega)).plus (by omega) (mulL_ev (by omega) (entryH_ev hp hX hi (by omega)) (entryH_ev hp hY (by omega) hj))
theorem eopH_eq {p : Int} {st : List Int} {X Y : Her} {i j : Nat} : eopH p st X Y i j = eopS p st X Y i j 3 := rfl
theorem eopH_ev {p : Int} {st : List Int} {X Y : Her} {i j : Nat} (hp : 2 <= p) (hX : isH p (sz st.length) X = true) (hY : isH p (sz st.length) Y = true) (hi : i < 3) (hj : j < 3) : Ev p (sz st.length) (eopH p st X Y i j) := eopS_ev hp hX hY hi hj 3 (Nat.le_refl _)
set_option maxRecDepth 100000 in
theorem eop_c {p : Int} {s x y : Value} {st : List Int} {X Y : Her} {ii jj : Nat} {w : World} (hd : Dok p st) (hs : El w s st) (hx : Hv w x X) (hX : isH p (sz st.length) X = true) (hy : Hv w y Y) (hY : isH p (sz st.length) Y = true) (hi : ii < 3) (hj : jj < 3) :
  Calls Tryz.prog 105 #[.agg #[.int .i64 p, s], x, y, .int .i64 ii, .int .i64 jj] w fun e w' => ∃ v, e = .returned v /\ FrI w' w.heap.size v (eopH p st X Y ii jj) /\ Below w.heap.size w w' := by
 have hp1 := hd.hp.lo
 have hp2 := hd.hp.hi
 have hsz := sz_le hd
 have hl3 := hd.hl
 obtain ⟨a0, c0, rfl, _⟩ := id hs.op
 obtain ⟨dv1, uv1, rfl, hd1_, hu1_⟩ := id hx; obtain ⟨a1, c1, rfl, _⟩ := id hd1_.op; obtain ⟨b1, k1, rfl, _⟩ := id hu1_; clear hd1_ hu1_
 obtain ⟨dv2, uv2, rfl, hd2_, hu2_⟩ := id hy; obtain ⟨a2, c2, rfl, _⟩ := id hd2_.op; obtain ⟨b2, k2, rfl, _⟩ := id hu2_; clear hd2_ hu2_
 rw [eopH_eq]
 have ev := eopS_ev (p := p) (st := st) (X := X) (Y := Y) (i := ii) (j := jj) (by omega) hX hY hi hj
 have hmk := fun W => run_make_row' (P := Tryz.prog) 24 2 (.int .i64 0) 8 Tryz.underlying24 infoI rfl .i64 .i64 (sz st.length) (by omega) (by omega) W
 go_enter Tryz.func105, Tryz.ntmps105
 have hb0 : Below w.heap.size w (((w.alloc (.cells #[.int .i64 p, .slice a0 st.length c0] 26)).alloc (.cells #[.slice a1 X.dg.length c1, .slice b1 X.up.length k1] 29)).alloc (.cells #[.slice a2 Y.dg.length c2, .slice b2 Y.up.length k2] 29)) := bwT
 have hs := hs.below hb0; have hx := hx.below hb0; have hy := hy.below hb0
 have d0 : (((w.alloc (.cells #[.int .i64 p, .slice a0 st.length c0] 26)).alloc (.cells #[.slice a1 X.dg.length c1, .slice b1 X.up.length k1] 29)).alloc (.cells #[.slice a2 Y.dg.length c2, .slice b2 Y.up.length k2] 29)).cell? ⟨w.heap.size, 0, none⟩ = some (.int .i64 p) := by simp [go_sem]
 have d1 : (((w.alloc (.cells #[.int .i64 p, .slice a0 st.length c0] 26)).alloc (.cells #[.slice a1 X.dg.length c1, .slice b1 X.up.length k1] 29)).alloc (.cells #[.slice a2 Y.dg.length c2, .slice b2 Y.up.length k2] 29)).cell? ⟨w.heap.size, 1, none⟩ = some (.slice a0 st.length c0) := by simp [go_sem]
 have e0 : (((w.alloc (.cells #[.int .i64 p, .slice a0 st.length c0] 26)).alloc (.cells #[.slice a1 X.dg.length c1, .slice b1 X.up.length k1] 29)).alloc (.cells #[.slice a2 Y.dg.length c2, .slice b2 Y.up.length k2] 29)).cell? ⟨w.heap.size + 1, 0, none⟩ = some (.slice a1 X.dg.length c1) := by simp [go_sem]
 have e1 : (((w.alloc (.cells #[.int .i64 p, .slice a0 st.length c0] 26)).alloc (.cells #[.slice a1 X.dg.length c1, .slice b1 X.up.length k1] 29)).alloc (.cells #[.slice a2 Y.dg.length c2, .slice b2 Y.up.length k2] 29)).cell? ⟨w.heap.size + 1, 1, none⟩ = some (.slice b1 X.up.length k1) := by simp [go_sem]
 have f0 : (((w.alloc (.cells #[.int .i64 p, .slice a0 st.length c0] 26)).alloc (.cells #[.slice a1 X.dg.length c1, .slice b1 X.up.length k1] 29)).alloc (.cells #[.slice a2 Y.dg.length c2, .slice b2 Y.up.length k2] 29)).cell? ⟨w.heap.size + 1 + 1, 0, none⟩ = some (.slice a2 Y.dg.length c2) := by simp [go_sem]
 have f1 : (((w.alloc (.cells #[.int .i64 p, .slice a0 st.length c0] 26)).alloc (.cells #[.slice a1 X.dg.length c1, .slice b1 X.up.length k1] 29)).alloc (.cells #[.slice a2 Y.dg.length c2, .slice b2 Y.up.length k2] 29)).cell? ⟨w.heap.size + 1 + 1, 1, none⟩ = some (.slice b2 Y.up.length k2) := by simp [go_sem]
 go_wp2_with fail
 refine (size_c (by omega)).mono ?_; rintro e w1 ⟨rfl, hb1⟩
 have hs := hs.below hb1; have hx := hx.below hb1; have hy := hy.below hb1; have d0 := kept hb1 d0; have d1 := kept hb1 d1; have e0 := kept hb1 e0; have e1 := kept hb1 e1; have f0 := kept hb1 f0; have f1 := kept hb1 f1
 have hnew := (made_own (W := w1) (n := sz st.length) (by omega)).fr
 go_wp2
 go_loopw [11, 16] (fun o i wr => ∃ k : Nat, k <= 3 /\ i = .int .i64 k /\ FrI wr w1.heap.size o (eopS p st X Y ii jj k) /\ Below w1.heap.size w1 wr) (fun _ i _ => 3 - (intOf i).toNat)
 case atStart => exact ⟨0, by omega, rfl, hnew, bwT⟩
 case round =>
  obtain ⟨k, hk, rfl, ho, hb⟩ := hrel
  have ek := ev k hk
  have L0 := Lib.hid ek.1
  have hs := hs.below hb; have hx := hx.below hb; have hy := hy.below hb; have d0 := kept hb d0; have d1 := kept hb d1; have e0 := kept hb e0; have e1 := kept hb e1; have f0 := kept hb f0; have f1 := kept hb f1
  by_cases hlt : k < 3
  ·have x1 := entryH_ev (by omega) hX hi hlt
   have x2 := entryH_ev (by omega) hY hlt hj
   have x3 := mulL_ev (p := p) (by omega) x1 x2
   have L1 := Lib.hid x3.1
   have S0 := ek.sm (M := 1000000) (by omega) (by omega)
   have S1 := x3.sm (M := 1000000) (by omega) (by omega)
   have hst : eopS p st X Y ii jj (k + 1) = plusL p (eopS p st X Y ii jj k) (mulL p st (entryH p (sz st.length) X ii k) (entryH p (sz st.length) Y k jj)) 1 := rfl
   have HE := Lib.hid hst; clear hst ek
   go_wp2
   go_wp2_with fail
   refine region_flow [(false, [(0, 1), (2, 0), (3, 1), (4, 1), (5, 1), (6, 0), (7, 0), (9, 1), (10, 1), (11, 0), (12, 0), (1, 5)]), (false, [(8, 5)]), (false, [(13, 5)]), (false, [(14, 4), (15, 4), (16, 0)])] (by kernel_rfl) ?_
   refine norm_K fun K hK => ?_
   change wpList _ _ _ [_, _, _, _, _, _, _, _, _, _, _, _] _ _
   have hb21 : Below wr.heap.size wr wr.drew := bwT
   have hs := hs.below hb21; have hx := hx.below hb21; have hy := hy.below hb21; have ho := ho.below hb21; have d0 := kept hb21 d0; have d1 := kept hb21 d1; have e0 := kept hb21 e0; have e1 := kept hb21 e1; have f0 := kept hb21 f0; have f1 := kept hb21 f1
   go_wp2_with fail
   refine (dfield_c).mono ?_; rintro e w22 ⟨rfl, hb22⟩
   have hs := hs.below hb22; have hx := hx.below hb22; have hy := hy.below hb22; have ho := ho.below hb22; have d0 := kept hb22 d0; have d1 := kept hb22 d1; have e0 := kept hb22 e0; have e1 := kept hb22 e1; have f0 := kept hb22 f0; have f1 := kept hb22 f1
   go_wp2_with fail
   have hz0 : Below wr.drew.heap.size wr.drew w22 := bwT
   first | (refine hK _ _ ⟨hz0, ?_⟩; clear hK K) | refine ⟨hz0, ?_⟩
   clear hz0
   refine norm_K fun K hK => ?_
   change wpList _ _ _ [_] _ _
   go_wp2_with fail
   refine (ent_c hd hs hx hX hi hlt).mono ?_; rintro e w23 ⟨v1, rfl, hv1, hb23⟩
   have hs := hs.below hb23; have hx := hx.below hb23; have hy := hy.below hb23; have ho := ho.below hb23; have d0 := kept hb23 d0; have d1 := kept hb23 d1; have e0 := kept hb23 e0; have e1 := kept hb23 e1; have f0 := kept hb23 f0; have f1 := kept hb23 f1
   go_wp2_with fail
   have hz1 : Below wr.drew.heap.size wr.drew w23 := bwT
   first | (refine hK _ _ ⟨hz1, ?_⟩; clear hK K) | refine ⟨hz1, ?_⟩
   clear hz1
   refine norm_K fun K hK => ?_
   change wpList _ _ _ [_] _ _
   go_wp2_with fail
   refine (ent_c hd hs hy hY hlt hj).mono ?_; rintro e w24 ⟨v2, rfl, hv2, hb24⟩
   have hs := hs.below hb24; have hx := hx.below hb24; have hy := hy.below hb24; have ho := ho.below hb24; have d0 := kept hb24 d0; have d1 := kept hb24 d1; have e0 := kept hb24 e0; have e1 := kept hb24 e1; have f0 := kept hb24 f0; have f1 := kept hb24 f1; have hv1 := hv1.below hb24
   go_wp2_with fail
   have hz2 : Below wr.drew.heap.size wr.drew w24 := bwT
   first | (refine hK _ _ ⟨hz2, ?_⟩; clear hK K) | refine ⟨hz2, ?_⟩
   clear hz2
   refine norm_K fun K hK => ?_
   change wpList _ _ _ [_, _, _] _ _
   go_wp2_with fail
   refine (times_c hd hs hv1 hv2 x1 x2).mono ?_; rintro e w25 ⟨m, rfl, hm, hb25⟩
   have hs := hs.below hb25; have hx := hx.below hb25; have hy := hy.below hb25; have ho := ho.below hb25; have d0 := kept hb25 d0; have d1 := kept hb25 d1; have e0 := kept hb25 e0; have e1 := kept hb25 e1; have f0 := kept hb25 f0; have f1 := kept hb25 f1; have hv1 := hv1.below hb25; have hv2 := hv2.below hb25
   go_wp2_with fail
   refine (plus_c (k := 1) (by omega) (by omega) (by omega) (by omega) ho.sl hm.sl S0 S1 (by rw [L0.out, L1.out]) (by have := L0.out; omega)).mono ?_; rintro e w26 ⟨q, rfl, hq, hb26⟩
   have hs := hs.below hb26; have hx := hx.below hb26; have hy := hy.below hb26; have ho := ho.below hb26; have d0 := kept hb26 d0; have d1 := kept hb26 d1; have e0 := kept hb26 e0; have e1 := kept hb26 e1; have f0 := kept hb26 f0; have f1 := kept hb26 f1; have hv1 := hv1.below hb26; have hv2 := hv2.below hb26; have hm := hm.below hb26
   go_wp2_with fail
   first | (refine hK _ _ ⟨rfl, ?_⟩; clear hK K) | refine ⟨rfl, ?_⟩
   go_wp2_with fail
   go_roundw
   case rel => exact ⟨k + 1, by omega, by go_num, by rw [HE.out]; exact hq.more (below_le bwT), bwT⟩
   case measure => simp [intOf]; omega
  ·obtain rfl : k = 3 := by omega
   go_wp2
   go_ret
   exact ⟨_, rfl, ho.more (below_le bwT), bwT⟩
theorem halfH_ev {p : Int} {st : List Int} {X Y : Her} {i j : Nat} (hp : 2 <= p) (hX : isH p (sz st.length) X = true) (hY : isH p (sz st.length) Y = true) (hi : i < 3) (hj : j < 3) : Ev p (sz st.length) (halfH p st X Y i j) :=
 Ev.scale (by omega) (Ev.plus (by omega) (eopH_ev hp hX hY hi hj) (eopH_ev hp hY hX hi hj))
set_option maxRecDepth 100000 in
theorem half_c {p : Int} {s dx ux dy uy : Value} {st : List Int} {X Y : Her} {ii jj q0 q1 q2 q3 : Nat} {w : World} (hd : Dok p st) (hs : El w s st) (hx : Hv w (.agg #[dx, ux]) X) (hX : isH p (sz st.length) X = true) (hy : Hv w (.agg #[dy, uy]) Y) (hY : isH p (sz st.length) Y = true) (hi : ii < 3) (hj : jj < 3)
  (g0 : w.cell? ⟨q0, 0, none⟩ = some (.int .i64 p)) (d0 : w.cell? ⟨q1, 0, none⟩ = some (.int .i64 p)) (d1 : w.cell? ⟨q1, 1, none⟩ = some s) (e0 : w.cell? ⟨q2, 0, none⟩ = some dx) (e1 : w.cell? ⟨q2, 1, none⟩ = some ux) (f0 : w.cell? ⟨q3, 0, none⟩ = some dy) (f1 : w.cell? ⟨q3, 1, none⟩ = some uy) :
  Calls Tryz.prog 103 #[.int .i64 ii, .int .i64 jj, .pointer (some ⟨q0, 0, none⟩), .pointer (some ⟨q1, 0, none⟩), .pointer (some ⟨q2, 0, none⟩), .pointer (some ⟨q3, 0, none⟩)] w fun e w' => ∃ v, e = .returned v /\ FrI w' w.heap.size v (halfH p st X Y ii jj) /\ Below w.heap.size w w' := by
 have hp1 := hd.hp.lo
 have hp2 := hd.hp.hi
 have hsz := sz_le hd
 have x1 := eopH_ev (p := p) (by omega) hX hY hi hj
 have x2 := eopH_ev (p := p) (by omega) hY hX hi hj
 have x3 := x1.plus (k := 1) (by omega) x2
 have S1 := x1.sm (M := 1000000) (by omega) (by omega)
 have S2 := x2.sm (M := 1000000) (by omega) (by omega)
 have S3 := x3.sm (M := 1000000) (by omega) (by omega)
 have L1 := Lib.hid x1.1
 have L2 := Lib.hid x2.1
 have L3 := Lib.hid x3.1
 clear x1 x2 x3
 have hv2 := invL_fp (p := p) (a := 2) (by omega)
 rw [show halfH p st X Y ii jj = scaleL p (plusL p (eopH p st X Y ii jj) (eopH p st Y X ii jj) 1) (invL p 2) from rfl]
 obtain ⟨iv, hh2⟩ : ∃ h, h = invL p 2 := ⟨_, rfl⟩
 rw [<- hh2] at hv2 ⊢
 have HQ := Lib.hid hh2; clear hh2
 obtain ⟨dv1, uv1, he1, hd1_, hu1_⟩ := id hx; cases he1; obtain ⟨a1, c1, rfl, _⟩ := id hd1_.op; obtain ⟨b1, k1, rfl, _⟩ := id hu1_; clear hd1_ hu1_
 obtain ⟨dv2, uv2, he2, hd2_, hu2_⟩ := id hy; cases he2; obtain ⟨a2, c2, rfl, _⟩ := id hd2_.op; obtain ⟨b2, k2, rfl, _⟩ := id hu2_; clear hd2_ hu2_
 obtain ⟨a0, c0, rfl, _⟩ := id hs.op
 go_enter Tryz.func103, Tryz.ntmps103
 go_wp2_with fail
 refine region_flow [(false, [(0, 1), (1, 1), (2, 1), (3, 1), (4, 1), (5, 0), (6, 0), (8, 1), (9, 1), (10, 1), (11, 0), (12, 0), (15, 1), (7, 5)]), (false, [(13, 5)]), (false, [(14, 5)]), (false, [(16, 5)]), (false, [(17, 4), (18, 0)])] (by kernel_rfl) ?_
 refine norm_K fun K hK => ?_
 change wpList _ _ _ [_, _, _, _, _, _, _, _, _, _, _, _, _, _] _ _
 have hb1 : Below w.heap.size w w.drew := bwT
 have hs := hs.below hb1; have hx := hx.below hb1; have hy := hy.below hb1; have g0 := kept hb1 g0; have d0 := kept hb1 d0; have d1 := kept hb1 d1; have e0 := kept hb1 e0; have e1 := kept hb1 e1; have f0 := kept hb1 f0; have f1 := kept hb1 f1
 go_wp2_with fail
 refine (eop_c hd hs hx hX hy hY hi hj).mono ?_; rintro e w2 ⟨v1, rfl, h1, hb2⟩
 have hs := hs.below hb2; have hx := hx.below hb2; have hy := hy.below hb2; have g0 := kept hb2 g0; have d0 := kept hb2 d0; have d1 := kept hb2 d1; have e0 := kept hb2 e0; have e1 := kept hb2 e1; have f0 := kept hb2 f0; have f1 := kept hb2 f1
 go_wp2_with fail
 have hz0 : Below w.drew.heap.size w.drew w2 := bwT
 first | (refine hK _ _ ⟨hz0, ?_⟩; clear hK K) | refine ⟨hz0, ?_⟩
 clear hz0
 refine norm_K fun K hK => ?_
 change wpList _ _ _ [_] _ _
 go_wp2_with fail
 refine (eop_c hd hs hy hY hx hX hi hj).mono ?_; rintro e w3 ⟨v2, rfl, h2, hb3⟩
 have hs := hs.below hb3; have hx := hx.below hb3; have hy := hy.below hb3; have g0 := kept hb3 g0; have d0 := kept hb3 d0; have d1 := kept hb3 d1; have e0 := kept hb3 e0; have e1 := kept hb3 e1; have f0 := kept hb3 f0; have f1 := kept hb3 f1; have h1 := h1.below hb3
 go_wp2_with fail
 have hz1 : Below w.drew.heap.size w.drew w3 := bwT
 first | (refine hK _ _ ⟨hz1, ?_⟩; clear hK K) | refine ⟨hz1, ?_⟩
 clear hz1
 refine norm_K fun K hK => ?_
 change wpList _ _ _ [_] _ _
 go_wp2_with fail
 refine (plus_c (k := 1) (by omega) (by omega) (by omega) (by omega) h1.sl h2.sl S1 S2 (by rw [L1.out, L2.out]) (by have := L1.out; omega)).mono ?_; rintro e w4 ⟨v3, rfl, h3, hb4⟩
 have hs := hs.below hb4; have hx := hx.below hb4; have hy := hy.below hb4; have g0 := kept hb4 g0; have d0 := kept hb4 d0; have d1 := kept hb4 d1; have e0 := kept hb4 e0; have e1 := kept hb4 e1; have f0 := kept hb4 f0; have f1 := kept hb4 f1; have h1 := h1.below hb4; have h2 := h2.below hb4
 go_wp2_with fail
 have hz2 : Below w.drew.heap.size w.drew w4 := bwT
 first | (refine hK _ _ ⟨hz2, ?_⟩; clear hK K) | refine ⟨hz2, ?_⟩
 clear hz2
 refine norm_K fun K hK => ?_
 change wpList _ _ _ [_] _ _
 go_wp2_with fail
 refine (inv_c (a := 2) (by omega) (by omega) (by omega) (by omega)).mono ?_; rintro e w5 ⟨rfl, rfl⟩
 rw [<- HQ.out]
 go_wp2_with fail
 have hz3 : Below w.drew.heap.size w.drew w4 := bwT
 first | (refine hK _ _ ⟨hz3, ?_⟩; clear hK K) | refine ⟨hz3, ?_⟩
 clear hz3
 refine norm_K fun K hK => ?_
 change wpList _ _ _ [_, _] _ _
 go_wp2_with fail
 refine (scaled_c (k := iv) (by omega) (by omega) (by omega) (by omega) h3.sl S3 (by have := L3.out; omega)).mono ?_; rintro e w6 ⟨v4, rfl, h4, hb6⟩
 have hs := hs.below hb6; have hx := hx.below hb6; have hy := hy.below hb6; have g0 := kept hb6 g0; have d0 := kept hb6 d0; have d1 := kept hb6 d1; have e0 := kept hb6 e0; have e1 := kept hb6 e1; have f0 := kept hb6 f0; have f1 := kept hb6 f1; have h1 := h1.below hb6; have h2 := h2.below hb6; have h3 := h3.below hb6
 go_wp2_with fail
 first | (refine hK _ _ ⟨rfl, ?_⟩; clear hK K) | refine ⟨rfl, ?_⟩
 go_wp2_with fail
 go_ret
 exact ⟨_, rfl, h4.more (below_le bwT), bwT⟩
end Go.Proofs.YtilgbekffbphgaaGreat
