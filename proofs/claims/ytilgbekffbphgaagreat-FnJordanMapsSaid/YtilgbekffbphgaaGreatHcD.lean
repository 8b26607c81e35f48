import Derived.Test.YtilgbekffbphgaaGreatJak
namespace Go.Proofs.YtilgbekffbphgaaGreat
open Go.RowKit
theorem mulp {a b c : Int} (h1 : 0 <= a /\ a <= 12) (h2 : 0 <= b /\ b <= 12) (h3 : 0 <= c /\ c <= 12) : (0 <= a * b /\ a * b <= 144) /\ 0 <= a * b * c /\ a * b * c <= 1728 := by
 have k1 := mulb (k := a) (y := b) (A := 12) (B := 12) (by omega) (by omega) (by omega) (by omega)
 have k0 : 0 <= a * b := Int.mul_nonneg (by omega) (by omega)
 have k2 := mulb (k := a * b) (y := c) (A := 144) (B := 12) (by omega) (by omega) (by omega) (by omega)
 have k3 : 0 <= a * b * c := Int.mul_nonneg (by omega) (by omega)
 omega
theorem mul2 {a b : Int} (h1 : 0 <= a /\ a <= 12) (h2 : 0 <= b /\ b <= 12) : 0 <= a * b /\ a * b <= 144 := by
 have k1 := mulb (k := a) (y := b) (A := 12) (B := 12) (by omega) (by omega) (by omega) (by omega)
 have k0 : 0 <= a * b := Int.mul_nonneg (by omega) (by omega)
 omega
theorem detH_eq {p : Int} {st : List Int} {a b c : Int} {u v t : List Int} : detH p st ⟨[a, b, c], [u, v, t]⟩ = (a * b * c + cycL p st u v t - a * normL p st u - b * normL p st v - c * normL p st t) % p := rfl
set_option maxRecDepth 100000 in
theorem jdet_c {p : Int} {s x : Value} {st : List Int} {X : Her} {w : World} (hd : Dok p st) (hs : El w s st) (hx : Hv w x X) (hX : isH p (sz st.length) X = true) :
  Calls Tryz.prog 38 #[.agg #[.int .i64 p, s], x] w fun e w' => e = .returned (.int .i64 (detH p st X)) /\ Below w.heap.size w w' := by
 have hp1 := hd.hp.lo
 have hp2 := hd.hp.hi
 have hsz := sz_le hd
 obtain ⟨a0, c0, rfl, _⟩ := id hs.op
 obtain ⟨a1, b1, c1, u1, v1, t1, bd1, od1, cd1, bu1, ou1, cu1, r1, s1, q1, rfl, rfl, ba1, bb1, bc1, eu1, ev1, et1, ca1, cb1, cc1, cr1, cs1, cq1, er1, es1, eq1, kd1, ku1⟩ := Hv.op3 hx hX
 rw [detH_eq]
 have em := mulL_ev (p := p) (by omega) eu1 ev1
 have em2 := mulL_ev (p := p) (by omega) em et1
 have LM := Lib.hid em2.1
 have n0 := normL_fp (p := p) (st := st) (x := u1) (by omega)
 have n1 := normL_fp (p := p) (st := st) (x := v1) (by omega)
 have n2 := normL_fp (p := p) (st := st) (x := t1) (by omega)
 have ht := mod_fp (p := p) (x := 2 * (mulL p st (mulL p st u1 v1) t1).getD 0 0) (by omega)
 have q0 := mulp (a := a1) (b := b1) (c := c1) (by omega) (by omega) (by omega)
 have y0 := mul2 (a := a1) (b := normL p st u1) (by omega) (by omega)
 have y1 := mul2 (a := b1) (b := normL p st v1) (by omega) (by omega)
 have y2 := mul2 (a := c1) (b := normL p st t1) (by omega) (by omega)
 change 0 <= cycL p st u1 v1 t1 /\ cycL p st u1 v1 t1 < p at ht
 obtain ⟨cy, hcy⟩ : ∃ cy, cy = cycL p st u1 v1 t1 := ⟨_, rfl⟩
 obtain ⟨m0, hm0⟩ : ∃ m, m = normL p st u1 := ⟨_, rfl⟩
 obtain ⟨m1, hm1⟩ : ∃ m, m = normL p st v1 := ⟨_, rfl⟩
 obtain ⟨m2, hm2⟩ : ∃ m, m = normL p st t1 := ⟨_, rfl⟩
 rw [<- hcy] at ht ⊢
 rw [<- hm0] at n0 y0 ⊢
 rw [<- hm1] at n1 y1 ⊢
 rw [<- hm2] at n2 y2 ⊢
 have HC := Lib.hid hcy; have HM0 := Lib.hid hm0; have HM1 := Lib.hid hm1; have HM2 := Lib.hid hm2
 clear hcy hm0 hm1 hm2
 go_enter Tryz.func38, Tryz.ntmps38
 have hb0 : Below w.heap.size w ((w.alloc (.cells #[.int .i64 p, .slice a0 st.length c0] 26)).alloc (.cells #[.slice (some ⟨bd1, od1, none⟩) 3 cd1, .slice (some ⟨bu1, ou1, none⟩) 3 cu1] 29)) := bwT
 have hs := hs.below hb0; have ca1 := kept hb0 ca1; have cb1 := kept hb0 cb1; have cc1 := kept hb0 cc1; have cr1 := kept hb0 cr1; have cs1 := kept hb0 cs1; have cq1 := kept hb0 cq1; have er1 := er1.below hb0; have es1 := es1.below hb0; have eq1 := eq1.below hb0
 have d0 : ((w.alloc (.cells #[.int .i64 p, .slice a0 st.length c0] 26)).alloc (.cells #[.slice (some ⟨bd1, od1, none⟩) 3 cd1, .slice (some ⟨bu1, ou1, none⟩) 3 cu1] 29)).cell? ⟨w.heap.size, 0, none⟩ = some (.int .i64 p) := by simp [go_sem]
 have d1 : ((w.alloc (.cells #[.int .i64 p, .slice a0 st.length c0] 26)).alloc (.cells #[.slice (some ⟨bd1, od1, none⟩) 3 cd1, .slice (some ⟨bu1, ou1, none⟩) 3 cu1] 29)).cell? ⟨w.heap.size, 1, none⟩ = some (.slice a0 st.length c0) := by simp [go_sem]
 have e0 : ((w.alloc (.cells #[.int .i64 p, .slice a0 st.length c0] 26)).alloc (.cells #[.slice (some ⟨bd1, od1, none⟩) 3 cd1, .slice (some ⟨bu1, ou1, none⟩) 3 cu1] 29)).cell? ⟨w.heap.size + 1, 0, none⟩ = some (.slice (some ⟨bd1, od1, none⟩) 3 cd1) := by simp [go_sem]
 have e1 : ((w.alloc (.cells #[.int .i64 p, .slice a0 st.length c0] 26)).alloc (.cells #[.slice (some ⟨bd1, od1, none⟩) 3 cd1, .slice (some ⟨bu1, ou1, none⟩) 3 cu1] 29)).cell? ⟨w.heap.size + 1, 1, none⟩ = some (.slice (some ⟨bu1, ou1, none⟩) 3 cu1) := by simp [go_sem]
 go_wp2_with fail
 refine region_flow [(false, [(0, 0), (1, 1), (2, 0), (3, 1), (4, 0), (5, 0)])] (by kernel_rfl) ?_
 refine norm_K fun K hK => ?_
 change wpList _ _ _ [_, _, _, _, _, _] _ _
 have hb1 : Below ((w.alloc (.cells #[.int .i64 p, .slice a0 st.length c0] 26)).alloc (.cells #[.slice (some ⟨bd1, od1, none⟩) 3 cd1, .slice (some ⟨bu1, ou1, none⟩) 3 cu1] 29)).heap.size ((w.alloc (.cells #[.int .i64 p, .slice a0 st.length c0] 26)).alloc (.cells #[.slice (some ⟨bd1, od1, none⟩) 3 cd1, .slice (some ⟨bu1, ou1, none⟩) 3 cu1] 29)) ((w.alloc (.cells #[.int .i64 p, .slice a0 st.length c0] 26)).alloc (.cells #[.slice (some ⟨bd1, od1, none⟩) 3 cd1, .slice (some ⟨bu1, ou1, none⟩) 3 cu1] 29)).drew := bwT
 have hs := hs.below hb1; have ca1 := kept hb1 ca1; have cb1 := kept hb1 cb1; have cc1 := kept hb1 cc1; have cr1 := kept hb1 cr1; have cs1 := kept hb1 cs1; have cq1 := kept hb1 cq1; have er1 := er1.below hb1; have es1 := es1.below hb1; have eq1 := eq1.below hb1; have d0 := kept hb1 d0; have d1 := kept hb1 d1; have e0 := kept hb1 e0; have e1 := kept hb1 e1
 go_wp2_with fail
 first | (refine hK _ _ ⟨rfl, ?_⟩; clear hK K) | refine ⟨rfl, ?_⟩
 go_wp2_with fail
 refine region_flow [(false, [(0, 0), (1, 0), (2, 1), (3, 0), (4, 0), (5, 1), (6, 0), (7, 0), (8, 0), (9, 1), (10, 0), (11, 1), (12, 1), (13, 1), (14, 0), (15, 0), (16, 1), (17, 0), (18, 0), (19, 1), (21, 0), (22, 0), (23, 1), (20, 5)]), (false, [(24, 5)]), (false, [(25, 5)]), (false, [(26, 0), (27, 0)])] (by kernel_rfl) ?_
 refine norm_K fun K hK => ?_
 change wpList _ _ _ [_, _, _, _, _, _, _, _, _, _, _, _, _, _, _, _, _, _, _, _, _, _, _, _] _ _
 have hb2 : Below ((w.alloc (.cells #[.int .i64 p, .slice a0 st.length c0] 26)).alloc (.cells #[.slice (some ⟨bd1, od1, none⟩) 3 cd1, .slice (some ⟨bu1, ou1, none⟩) 3 cu1] 29)).drew.heap.size ((w.alloc (.cells #[.int .i64 p, .slice a0 st.length c0] 26)).alloc (.cells #[.slice (some ⟨bd1, od1, none⟩) 3 cd1, .slice (some ⟨bu1, ou1, none⟩) 3 cu1] 29)).drew ((w.alloc (.cells #[.int .i64 p, .slice a0 st.length c0] 26)).alloc (.cells #[.slice (some ⟨bd1, od1, none⟩) 3 cd1, .slice (some ⟨bu1, ou1, none⟩) 3 cu1] 29)).drew.drew := bwT
 have hs := hs.below hb2; have ca1 := kept hb2 ca1; have cb1 := kept hb2 cb1; have cc1 := kept hb2 cc1; have cr1 := kept hb2 cr1; have cs1 := kept hb2 cs1; have cq1 := kept hb2 cq1; have er1 := er1.below hb2; have es1 := es1.below hb2; have eq1 := eq1.below hb2; have d0 := kept hb2 d0; have d1 := kept hb2 d1; have e0 := kept hb2 e0; have e1 := kept hb2 e1
 go_wp2_with fail
 refine (times_c hd hs er1 es1 eu1 ev1).mono ?_; rintro e w3 ⟨m, rfl, hm, hb3⟩
 have hs := hs.below hb3; have ca1 := kept hb3 ca1; have cb1 := kept hb3 cb1; have cc1 := kept hb3 cc1; have cr1 := kept hb3 cr1; have cs1 := kept hb3 cs1; have cq1 := kept hb3 cq1; have er1 := er1.below hb3; have es1 := es1.below hb3; have eq1 := eq1.below hb3; have d0 := kept hb3 d0; have d1 := kept hb3 d1; have e0 := kept hb3 e0; have e1 := kept hb3 e1
 go_wp2_with fail
 have hz0 : Below ((w.alloc (.cells #[.int .i64 p, .slice a0 st.length c0] 26)).alloc (.cells #[.slice (some ⟨bd1, od1, none⟩) 3 cd1, .slice (some ⟨bu1, ou1, none⟩) 3 cu1] 29)).drew.drew.heap.size ((w.alloc (.cells #[.int .i64 p, .slice a0 st.length c0] 26)).alloc (.cells #[.slice (some ⟨bd1, od1, none⟩) 3 cd1, .slice (some ⟨bu1, ou1, none⟩) 3 cu1] 29)).drew.drew w3 := bwT
 first | (refine hK _ _ ⟨hz0, ?_⟩; clear hK K) | refine ⟨hz0, ?_⟩
 clear hz0
 refine norm_K fun K hK => ?_
 change wpList _ _ _ [_] _ _
 go_wp2_with fail
 refine (times_c hd hs hm.el eq1 em et1).mono ?_; rintro e w4 ⟨m', rfl, hm', hb4⟩
 have hs := hs.below hb4; have ca1 := kept hb4 ca1; have cb1 := kept hb4 cb1; have cc1 := kept hb4 cc1; have cr1 := kept hb4 cr1; have cs1 := kept hb4 cs1; have cq1 := kept hb4 cq1; have er1 := er1.below hb4; have es1 := es1.below hb4; have eq1 := eq1.below hb4; have d0 := kept hb4 d0; have d1 := kept hb4 d1; have e0 := kept hb4 e0; have e1 := kept hb4 e1; have hm := hm.below hb4
 go_wp2_with fail
 have hz1 : Below ((w.alloc (.cells #[.int .i64 p, .slice a0 st.length c0] 26)).alloc (.cells #[.slice (some ⟨bd1, od1, none⟩) 3 cd1, .slice (some ⟨bu1, ou1, none⟩) 3 cu1] 29)).drew.drew.heap.size ((w.alloc (.cells #[.int .i64 p, .slice a0 st.length c0] 26)).alloc (.cells #[.slice (some ⟨bd1, od1, none⟩) 3 cd1, .slice (some ⟨bu1, ou1, none⟩) 3 cu1] 29)).drew.drew w4 := bwT
 first | (refine hK _ _ ⟨hz1, ?_⟩; clear hK K) | refine ⟨hz1, ?_⟩
 clear hz1
 refine norm_K fun K hK => ?_
 change wpList _ _ _ [_] _ _
 go_wp2_with fail
 refine (trace_c hd.hp hs hm'.el em2.2 (by have := LM.out; omega)).mono ?_; rintro e w5 ⟨rfl, hb5⟩
 have hs := hs.below hb5; have ca1 := kept hb5 ca1; have cb1 := kept hb5 cb1; have cc1 := kept hb5 cc1; have cr1 := kept hb5 cr1; have cs1 := kept hb5 cs1; have cq1 := kept hb5 cq1; have er1 := er1.below hb5; have es1 := es1.below hb5; have eq1 := eq1.below hb5; have d0 := kept hb5 d0; have d1 := kept hb5 d1; have e0 := kept hb5 e0; have e1 := kept hb5 e1; have hm := hm.below hb5; have hm' := hm'.below hb5
 rw [show 2 * (mulL p st (mulL p st u1 v1) t1).getD 0 0 % p = cycL p st u1 v1 t1 from rfl, <- HC.out]
 go_wp2_with fail
 have hz2 : Below ((w.alloc (.cells #[.int .i64 p, .slice a0 st.length c0] 26)).alloc (.cells #[.slice (some ⟨bd1, od1, none⟩) 3 cd1, .slice (some ⟨bu1, ou1, none⟩) 3 cu1] 29)).drew.drew.heap.size ((w.alloc (.cells #[.int .i64 p, .slice a0 st.length c0] 26)).alloc (.cells #[.slice (some ⟨bd1, od1, none⟩) 3 cd1, .slice (some ⟨bu1, ou1, none⟩) 3 cu1] 29)).drew.drew w5 := bwT
 first | (refine hK _ _ ⟨hz2, ?_⟩; clear hK K) | refine ⟨hz2, ?_⟩
 clear hz2
 refine norm_K fun K hK => ?_
 change wpList _ _ _ [_, _] _ _
 go_wp2_with fail
 first | (refine hK _ _ ⟨rfl, ?_⟩; clear hK K) | refine ⟨rfl, ?_⟩
 have hbw0 : Below w.heap.size w w5 := bwT
 go_wp2
 obtain ⟨W0, hW0⟩ : ∃ W, W = w5 := ⟨_, rfl⟩
 rw [<- hW0] at hbw0 hs ca1 cb1 cc1 cr1 cs1 cq1 er1 es1 eq1 d0 d1 e0 e1  ⊢
 clear hW0
 go_loopw [7, 40] (fun q i wr => ∃ (k : Nat) (S : Int), i = .int .i64 k /\ q = .int .i64 S /\ ((k = 0 /\ S = a1 * b1 * c1 + cy) \/ (k = 1 /\ S = a1 * b1 * c1 + cy - a1 * m0) \/ (k = 2 /\ S = a1 * b1 * c1 + cy - a1 * m0 - b1 * m1) \/ (k = 3 /\ S = a1 * b1 * c1 + cy - a1 * m0 - b1 * m1 - c1 * m2)) /\ Below W0.heap.size W0 wr)
  (fun _ i _ => 3 - (intOf i).toNat)
 case atStart => exact ⟨0, _, rfl, rfl, .inl ⟨rfl, rfl⟩, Below.refl _ _⟩
 case round =>
  obtain ⟨k, S, rfl, rfl, hk, hb⟩ := hrel
  have hs := hs.below hb; have ca1 := kept hb ca1; have cb1 := kept hb cb1; have cc1 := kept hb cc1; have cr1 := kept hb cr1; have cs1 := kept hb cs1; have cq1 := kept hb cq1; have er1 := er1.below hb; have es1 := es1.below hb; have eq1 := eq1.below hb; have d0 := kept hb d0; have d1 := kept hb d1; have e0 := kept hb e0; have e1 := kept hb e1
  rcases hk with ⟨rfl, rfl⟩ | ⟨rfl, rfl⟩ | ⟨rfl, rfl⟩ | ⟨rfl, rfl⟩
  ·go_wp2
   go_wp2_with fail
   refine region_flow [(false, [(0, 0), (1, 0), (2, 0), (3, 0), (4, 1), (5, 1), (6, 0), (7, 0), (8, 0), (9, 1), (10, 5)]), (false, [(11, 0), (12, 0), (13, 0)])] (by kernel_rfl) ?_
   refine norm_K fun K hK => ?_
   change wpList _ _ _ [_, _, _, _, _, _, _, _, _, _, _] _ _
   have hb21 : Below wr.heap.size wr wr.drew := bwT
   have hs := hs.below hb21; have ca1 := kept hb21 ca1; have cr1 := kept hb21 cr1; have er1 := er1.below hb21; have d0 := kept hb21 d0; have d1 := kept hb21 d1
   go_wp2_with fail
   refine (norm_c hd hs er1 eu1).mono ?_; rintro e w22 ⟨rfl, hb22⟩
   have hs := hs.below hb22; have ca1 := kept hb22 ca1; have cr1 := kept hb22 cr1; have er1 := er1.below hb22; have d0 := kept hb22 d0; have d1 := kept hb22 d1
   rw [<- HM0.out]
   go_wp2_with fail
   have hz0 : Below wr.drew.heap.size wr.drew w22 := bwT
   first | (refine hK _ _ ⟨hz0, ?_⟩; clear hK K) | refine ⟨hz0, ?_⟩
   clear hz0
   refine norm_K fun K hK => ?_
   change wpList _ _ _ [_, _, _] _ _
   go_wp2_with fail
   first | (refine hK _ _ ⟨rfl, ?_⟩; clear hK K) | refine ⟨rfl, ?_⟩
   go_wp2_with fail
   go_roundw
   case rel => exact ⟨1, _, rfl, rfl, .inr (.inl ⟨rfl, rfl⟩), bwT⟩
   case measure => simp [intOf]
  ·go_wp2
   go_wp2_with fail
   refine region_flow [(false, [(0, 0), (1, 0), (2, 0), (3, 0), (4, 1), (5, 1), (6, 0), (7, 0), (8, 0), (9, 1), (10, 5)]), (false, [(11, 0), (12, 0), (13, 0)])] (by kernel_rfl) ?_
   refine norm_K fun K hK => ?_
   change wpList _ _ _ [_, _, _, _, _, _, _, _, _, _, _] _ _
   have hb21 : Below wr.heap.size wr wr.drew := bwT
   have hs := hs.below hb21; have cb1 := kept hb21 cb1; have cs1 := kept hb21 cs1; have es1 := es1.below hb21; have d0 := kept hb21 d0; have d1 := kept hb21 d1
   go_wp2_with fail
   refine (norm_c hd hs es1 ev1).mono ?_; rintro e w22 ⟨rfl, hb22⟩
   have hs := hs.below hb22; have cb1 := kept hb22 cb1; have cs1 := kept hb22 cs1; have es1 := es1.below hb22; have d0 := kept hb22 d0; have d1 := kept hb22 d1
   rw [<- HM1.out]
   go_wp2_with fail
   have hz0 : Below wr.drew.heap.size wr.drew w22 := bwT
   first | (refine hK _ _ ⟨hz0, ?_⟩; clear hK K) | refine ⟨hz0, ?_⟩
   clear hz0
   refine norm_K fun K hK => ?_
   change wpList _ _ _ [_, _, _] _ _
   go_wp2_with fail
   first | (refine hK _ _ ⟨rfl, ?_⟩; clear hK K) | refine ⟨rfl, ?_⟩
   go_wp2_with fail
   go_roundw
   case rel => exact ⟨2, _, rfl, rfl, .inr (.inr (.inl ⟨rfl, rfl⟩)), bwT⟩
   case measure => simp [intOf]
  ·go_wp2
   go_wp2_with fail
   refine region_flow [(false, [(0, 0), (1, 0), (2, 0), (3, 0), (4, 1), (5, 1), (6, 0), (7, 0), (8, 0), (9, 1), (10, 5)]), (false, [(11, 0), (12, 0), (13, 0)])] (by kernel_rfl) ?_
   refine norm_K fun K hK => ?_
   change wpList _ _ _ [_, _, _, _, _, _, _, _, _, _, _] _ _
   have hb21 : Below wr.heap.size wr wr.drew := bwT
   have hs := hs.below hb21; have cc1 := kept hb21 cc1; have cq1 := kept hb21 cq1; have eq1 := eq1.below hb21; have d0 := kept hb21 d0; have d1 := kept hb21 d1
   go_wp2_with fail
   refine (norm_c hd hs eq1 et1).mono ?_; rintro e w22 ⟨rfl, hb22⟩
   have hs := hs.below hb22; have cc1 := kept hb22 cc1; have cq1 := kept hb22 cq1; have eq1 := eq1.below hb22; have d0 := kept hb22 d0; have d1 := kept hb22 d1
   rw [<- HM2.out]
   go_wp2_with fail
   have hz0 : Below wr.drew.heap.size wr.drew w22 := bwT
   first | (refine hK _ _ ⟨hz0, ?_⟩; clear hK K) | refine ⟨hz0, ?_⟩
   clear hz0
   refine norm_K fun K hK => ?_
   change wpList _ _ _ [_, _, _] _ _
   go_wp2_with fail
   first | (refine hK _ _ ⟨rfl, ?_⟩; clear hK K) | refine ⟨rfl, ?_⟩
   go_wp2_with fail
   go_roundw
   case rel => exact ⟨3, _, rfl, rfl, .inr (.inr (.inr ⟨rfl, rfl⟩)), bwT⟩
   case measure => simp [intOf]
  ·skip
   go_wp2_with fail
   refine (dfield_c).mono ?_; rintro e w21 ⟨rfl, hb21⟩
   have hs := hs.below hb21; have d0 := kept hb21 d0; have d1 := kept hb21 d1
   go_wp2_with fail
   refine (num_c (by omega) (by omega)).mono ?_; rintro e w22 ⟨rfl, rfl⟩
   go_wp2_with fail
   go_ret
   exact ⟨rfl, bwC hbw0 (bwC hb bwT)⟩
set_option maxRecDepth 100000 in
theorem sdet_c {p : Int} {s x : Value} {st : List Int} {X : Her} {w : World} (hd : Dok p st) (hs : El w s st) (hx : Hv w x X) (hX : isH p (sz st.length) X = true) :
  Calls Tryz.prog 47 #[.agg #[.int .i64 p, s], x] w fun e w' => e = .returned (.int .i64 (detH p st X)) /\ Below w.heap.size w w' := by
 have hp1 := hd.hp.lo
 have hp2 := hd.hp.hi
 have hsz := sz_le hd
 obtain ⟨a0, c0, rfl, _⟩ := id hs.op
 obtain ⟨a1, b1, c1, u1, v1, t1, bd1, od1, cd1, bu1, ou1, cu1, r1, s1, q1, rfl, rfl, ba1, bb1, bc1, eu1, ev1, et1, ca1, cb1, cc1, cr1, cs1, cq1, er1, es1, eq1, kd1, ku1⟩ := Hv.op3 hx hX
 rw [detH_eq]
 have em := mulL_ev (p := p) (by omega) eu1 ev1
 have em2 := mulL_ev (p := p) (by omega) em et1
 have LM := Lib.hid em2.1
 have n0 := normL_fp (p := p) (st := st) (x := u1) (by omega)
 have n1 := normL_fp (p := p) (st := st) (x := v1) (by omega)
 have n2 := normL_fp (p := p) (st := st) (x := t1) (by omega)
 have ht := mod_fp (p := p) (x := 2 * (mulL p st (mulL p st u1 v1) t1).getD 0 0) (by omega)
 have q0 := mulp (a := a1) (b := b1) (c := c1) (by omega) (by omega) (by omega)
 have y0 := mul2 (a := a1) (b := normL p st u1) (by omega) (by omega)
 have y1 := mul2 (a := b1) (b := normL p st v1) (by omega) (by omega)
 have y2 := mul2 (a := c1) (b := normL p st t1) (by omega) (by omega)
 change 0 <= cycL p st u1 v1 t1 /\ cycL p st u1 v1 t1 < p at ht
 obtain ⟨cy, hcy⟩ : ∃ cy, cy = cycL p st u1 v1 t1 := ⟨_, rfl⟩
 obtain ⟨m0, hm0⟩ : ∃ m, m = normL p st u1 := ⟨_, rfl⟩
 obtain ⟨m1, hm1⟩ : ∃ m, m = normL p st v1 := ⟨_, rfl⟩
 obtain ⟨m2, hm2⟩ : ∃ m, m = normL p st t1 := ⟨_, rfl⟩
 rw [<- hcy] at ht ⊢
 rw [<- hm0] at n0 y0 ⊢
 rw [<- hm1] at n1 y1 ⊢
 rw [<- hm2] at n2 y2 ⊢
 have HC := Lib.hid hcy; have HM0 := Lib.hid hm0; have HM1 := Lib.hid hm1; have HM2 := Lib.hid hm2
 clear hcy hm0 hm1 hm2
 go_enter Tryz.func47, Tryz.ntmps47
 have hb0 : Below w.heap.size w ((w.alloc (.cells #[.int .i64 p, .slice a0 st.length c0] 26)).alloc (.cells #[.slice (some ⟨bd1, od1, none⟩) 3 cd1, .slice (some ⟨bu1, ou1, none⟩) 3 cu1] 29)) := bwT
 have hs := hs.below hb0; have ca1 := kept hb0 ca1; have cb1 := kept hb0 cb1; have cc1 := kept hb0 cc1; have cr1 := kept hb0 cr1; have cs1 := kept hb0 cs1; have cq1 := kept hb0 cq1; have er1 := er1.below hb0; have es1 := es1.below hb0; have eq1 := eq1.below hb0
 have d0 : ((w.alloc (.cells #[.int .i64 p, .slice a0 st.length c0] 26)).alloc (.cells #[.slice (some ⟨bd1, od1, none⟩) 3 cd1, .slice (some ⟨bu1, ou1, none⟩) 3 cu1] 29)).cell? ⟨w.heap.size, 0, none⟩ = some (.int .i64 p) := by simp [go_sem]
 have d1 : ((w.alloc (.cells #[.int .i64 p, .slice a0 st.length c0] 26)).alloc (.cells #[.slice (some ⟨bd1, od1, none⟩) 3 cd1, .slice (some ⟨bu1, ou1, none⟩) 3 cu1] 29)).cell? ⟨w.heap.size, 1, none⟩ = some (.slice a0 st.length c0) := by simp [go_sem]
 have e0 : ((w.alloc (.cells #[.int .i64 p, .slice a0 st.length c0] 26)).alloc (.cells #[.slice (some ⟨bd1, od1, none⟩) 3 cd1, .slice (some ⟨bu1, ou1, none⟩) 3 cu1] 29)).cell? ⟨w.heap.size + 1, 0, none⟩ = some (.slice (some ⟨bd1, od1, none⟩) 3 cd1) := by simp [go_sem]
 have e1 : ((w.alloc (.cells #[.int .i64 p, .slice a0 st.length c0] 26)).alloc (.cells #[.slice (some ⟨bd1, od1, none⟩) 3 cd1, .slice (some ⟨bu1, ou1, none⟩) 3 cu1] 29)).cell? ⟨w.heap.size + 1, 1, none⟩ = some (.slice (some ⟨bu1, ou1, none⟩) 3 cu1) := by simp [go_sem]
 go_wp2_with fail
 refine region_flow [(false, [(0, 0), (1, 1), (2, 0), (3, 1), (4, 0), (5, 0)])] (by kernel_rfl) ?_
 refine norm_K fun K hK => ?_
 change wpList _ _ _ [_, _, _, _, _, _] _ _
 have hb1 : Below ((w.alloc (.cells #[.int .i64 p, .slice a0 st.length c0] 26)).alloc (.cells #[.slice (some ⟨bd1, od1, none⟩) 3 cd1, .slice (some ⟨bu1, ou1, none⟩) 3 cu1] 29)).heap.size ((w.alloc (.cells #[.int .i64 p, .slice a0 st.length c0] 26)).alloc (.cells #[.slice (some ⟨bd1, od1, none⟩) 3 cd1, .slice (some ⟨bu1, ou1, none⟩) 3 cu1] 29)) ((w.alloc (.cells #[.int .i64 p, .slice a0 st.length c0] 26)).alloc (.cells #[.slice (some ⟨bd1, od1, none⟩) 3 cd1, .slice (some ⟨bu1, ou1, none⟩) 3 cu1] 29)).drew := bwT
 have hs := hs.below hb1; have ca1 := kept hb1 ca1; have cb1 := kept hb1 cb1; have cc1 := kept hb1 cc1; have cr1 := kept hb1 cr1; have cs1 := kept hb1 cs1; have cq1 := kept hb1 cq1; have er1 := er1.below hb1; have es1 := es1.below hb1; have eq1 := eq1.below hb1; have d0 := kept hb1 d0; have d1 := kept hb1 d1; have e0 := kept hb1 e0; have e1 := kept hb1 e1
 go_wp2_with fail
 first | (refine hK _ _ ⟨rfl, ?_⟩; clear hK K) | refine ⟨rfl, ?_⟩
 go_wp2_with fail
 refine region_flow [(false, [(0, 0), (1, 0), (2, 1), (3, 0), (4, 0), (5, 1), (6, 0), (7, 0), (8, 0), (9, 1), (10, 0), (11, 0)])] (by kernel_rfl) ?_
 refine norm_K fun K hK => ?_
 change wpList _ _ _ [_, _, _, _, _, _, _, _, _, _, _, _] _ _
 have hb2 : Below ((w.alloc (.cells #[.int .i64 p, .slice a0 st.length c0] 26)).alloc (.cells #[.slice (some ⟨bd1, od1, none⟩) 3 cd1, .slice (some ⟨bu1, ou1, none⟩) 3 cu1] 29)).drew.heap.size ((w.alloc (.cells #[.int .i64 p, .slice a0 st.length c0] 26)).alloc (.cells #[.slice (some ⟨bd1, od1, none⟩) 3 cd1, .slice (some ⟨bu1, ou1, none⟩) 3 cu1] 29)).drew ((w.alloc (.cells #[.int .i64 p, .slice a0 st.length c0] 26)).alloc (.cells #[.slice (some ⟨bd1, od1, none⟩) 3 cd1, .slice (some ⟨bu1, ou1, none⟩) 3 cu1] 29)).drew.drew := bwT
 have hs := hs.below hb2; have ca1 := kept hb2 ca1; have cb1 := kept hb2 cb1; have cc1 := kept hb2 cc1; have cr1 := kept hb2 cr1; have cs1 := kept hb2 cs1; have cq1 := kept hb2 cq1; have er1 := er1.below hb2; have es1 := es1.below hb2; have eq1 := eq1.below hb2; have d0 := kept hb2 d0; have d1 := kept hb2 d1; have e0 := kept hb2 e0; have e1 := kept hb2 e1
 go_wp2_with fail
 first | (refine hK _ _ ⟨rfl, ?_⟩; clear hK K) | refine ⟨rfl, ?_⟩
 have hbw0 : Below w.heap.size w ((w.alloc (.cells #[.int .i64 p, .slice a0 st.length c0] 26)).alloc (.cells #[.slice (some ⟨bd1, od1, none⟩) 3 cd1, .slice (some ⟨bu1, ou1, none⟩) 3 cu1] 29)).drew.drew := bwT
 go_wp2
 obtain ⟨W0, hW0⟩ : ∃ W, W = ((w.alloc (.cells #[.int .i64 p, .slice a0 st.length c0] 26)).alloc (.cells #[.slice (some ⟨bd1, od1, none⟩) 3 cd1, .slice (some ⟨bu1, ou1, none⟩) 3 cu1] 29)).drew.drew := ⟨_, rfl⟩
 rw [<- hW0] at hbw0 hs ca1 cb1 cc1 cr1 cs1 cq1 er1 es1 eq1 d0 d1 e0 e1  ⊢
 clear hW0
 go_loopw [7, 8] (fun q i wr => ∃ (k : Nat) (S : Int), i = .int .i64 k /\ q = .int .i64 S /\ ((k = 0 /\ S = a1 * b1 * c1) \/ (k = 1 /\ S = a1 * b1 * c1 - a1 * m0) \/ (k = 2 /\ S = a1 * b1 * c1 - a1 * m0 - b1 * m1) \/ (k = 3 /\ S = a1 * b1 * c1 - a1 * m0 - b1 * m1 - c1 * m2)) /\ Below W0.heap.size W0 wr)
  (fun _ i _ => 3 - (intOf i).toNat)
 case atStart => exact ⟨0, _, rfl, rfl, .inl ⟨rfl, rfl⟩, Below.refl _ _⟩
 case round =>
  obtain ⟨k, S, rfl, rfl, hk, hb⟩ := hrel
  have hs := hs.below hb; have ca1 := kept hb ca1; have cb1 := kept hb cb1; have cc1 := kept hb cc1; have cr1 := kept hb cr1; have cs1 := kept hb cs1; have cq1 := kept hb cq1; have er1 := er1.below hb; have es1 := es1.below hb; have eq1 := eq1.below hb; have d0 := kept hb d0; have d1 := kept hb d1; have e0 := kept hb e0; have e1 := kept hb e1
  rcases hk with ⟨rfl, rfl⟩ | ⟨rfl, rfl⟩ | ⟨rfl, rfl⟩ | ⟨rfl, rfl⟩
  ·go_wp2
   go_wp2_with fail
   refine region_flow [(false, [(0, 0), (1, 0), (2, 0), (3, 0), (4, 1), (5, 1), (6, 0), (7, 0), (8, 0), (9, 1), (10, 5)]), (false, [(11, 0), (12, 0), (13, 0)])] (by kernel_rfl) ?_
   refine norm_K fun K hK => ?_
   change wpList _ _ _ [_, _, _, _, _, _, _, _, _, _, _] _ _
   have hb21 : Below wr.heap.size wr wr.drew := bwT
   have hs := hs.below hb21; have ca1 := kept hb21 ca1; have cr1 := kept hb21 cr1; have er1 := er1.below hb21; have d0 := kept hb21 d0; have d1 := kept hb21 d1
   go_wp2_with fail
   refine (snorm_c hd hs er1 eu1).mono ?_; rintro e w22 ⟨rfl, hb22⟩
   have hs := hs.below hb22; have ca1 := kept hb22 ca1; have cr1 := kept hb22 cr1; have er1 := er1.below hb22; have d0 := kept hb22 d0; have d1 := kept hb22 d1
   rw [<- HM0.out]
   go_wp2_with fail
   have hz0 : Below wr.drew.heap.size wr.drew w22 := bwT
   first | (refine hK _ _ ⟨hz0, ?_⟩; clear hK K) | refine ⟨hz0, ?_⟩
   clear hz0
   refine norm_K fun K hK => ?_
   change wpList _ _ _ [_, _, _] _ _
   go_wp2_with fail
   first | (refine hK _ _ ⟨rfl, ?_⟩; clear hK K) | refine ⟨rfl, ?_⟩
   go_wp2_with fail
   go_roundw
   case rel => exact ⟨1, _, rfl, rfl, .inr (.inl ⟨rfl, rfl⟩), bwT⟩
   case measure => simp [intOf]
  ·go_wp2
   go_wp2_with fail
   refine region_flow [(false, [(0, 0), (1, 0), (2, 0), (3, 0), (4, 1), (5, 1), (6, 0), (7, 0), (8, 0), (9, 1), (10, 5)]), (false, [(11, 0), (12, 0), (13, 0)])] (by kernel_rfl) ?_
   refine norm_K fun K hK => ?_
   change wpList _ _ _ [_, _, _, _, _, _, _, _, _, _, _] _ _
   have hb21 : Below wr.heap.size wr wr.drew := bwT
   have hs := hs.below hb21; have cb1 := kept hb21 cb1; have cs1 := kept hb21 cs1; have es1 := es1.below hb21; have d0 := kept hb21 d0; have d1 := kept hb21 d1
   go_wp2_with fail
   refine (snorm_c hd hs es1 ev1).mono ?_; rintro e w22 ⟨rfl, hb22⟩
   have hs := hs.below hb22; have cb1 := kept hb22 cb1; have cs1 := kept hb22 cs1; have es1 := es1.below hb22; have d0 := kept hb22 d0; have d1 := kept hb22 d1
   rw [<- HM1.out]
   go_wp2_with fail
   have hz0 : Below wr.drew.heap.size wr.drew w22 := bwT
   first | (refine hK _ _ ⟨hz0, ?_⟩; clear hK K) | refine ⟨hz0, ?_⟩
   clear hz0
   refine norm_K fun K hK => ?_
   change wpList _ _ _ [_, _, _] _ _
   go_wp2_with fail
   first | (refine hK _ _ ⟨rfl, ?_⟩; clear hK K) | refine ⟨rfl, ?_⟩
   go_wp2_with fail
   go_roundw
   case rel => exact ⟨2, _, rfl, rfl, .inr (.inr (.inl ⟨rfl, rfl⟩)), bwT⟩
   case measure => simp [intOf]
  ·go_wp2
   go_wp2_with fail
   refine region_flow [(false, [(0, 0), (1, 0), (2, 0), (3, 0), (4, 1), (5, 1), (6, 0), (7, 0), (8, 0), (9, 1), (10, 5)]), (false, [(11, 0), (12, 0), (13, 0)])] (by kernel_rfl) ?_
   refine norm_K fun K hK => ?_
   change wpList _ _ _ [_, _, _, _, _, _, _, _, _, _, _] _ _
   have hb21 : Below wr.heap.size wr wr.drew := bwT
   have hs := hs.below hb21; have cc1 := kept hb21 cc1; have cq1 := kept hb21 cq1; have eq1 := eq1.below hb21; have d0 := kept hb21 d0; have d1 := kept hb21 d1
   go_wp2_with fail
   refine (snorm_c hd hs eq1 et1).mono ?_; rintro e w22 ⟨rfl, hb22⟩
   have hs := hs.below hb22; have cc1 := kept hb22 cc1; have cq1 := kept hb22 cq1; have eq1 := eq1.below hb22; have d0 := kept hb22 d0; have d1 := kept hb22 d1
   rw [<- HM2.out]
   go_wp2_with fail
   have hz0 : Below wr.drew.heap.size wr.drew w22 := bwT
   first | (refine hK _ _ ⟨hz0, ?_⟩; clear hK K) | refine ⟨hz0, ?_⟩
   clear hz0
   refine norm_K fun K hK => ?_
   change wpList _ _ _ [_, _, _] _ _
   go_wp2_with fail
   first | (refine hK _ _ ⟨rfl, ?_⟩; clear hK K) | refine ⟨rfl, ?_⟩
   go_wp2_with fail
   go_roundw
   case rel => exact ⟨3, _, rfl, rfl, .inr (.inr (.inr ⟨rfl, rfl⟩)), bwT⟩
   case measure => simp [intOf]
  ·go_wp2
   go_wp2_with fail
   refine region_flow [(false, [(0, 0), (1, 1), (2, 0), (3, 1), (4, 0), (5, 0), (6, 1), (7, 0), (8, 0), (9, 1), (10, 0), (11, 0), (12, 1), (13, 5)]), (false, [(14, 0), (15, 4), (16, 0)])] (by kernel_rfl) ?_
   refine norm_K fun K hK => ?_
   change wpList _ _ _ [_, _, _, _, _, _, _, _, _, _, _, _, _, _] _ _
   have hb21 : Below wr.heap.size wr wr.drew := bwT
   have hs := hs.below hb21; have cr1 := kept hb21 cr1; have cs1 := kept hb21 cs1; have cq1 := kept hb21 cq1; have er1 := er1.below hb21; have es1 := es1.below hb21; have eq1 := eq1.below hb21; have d0 := kept hb21 d0; have d1 := kept hb21 d1
   go_wp2_with fail
   refine (scyc_c hd hs er1 es1 eq1 eu1 ev1 et1).mono ?_; rintro e w22 ⟨rfl, hb22⟩
   have hs := hs.below hb22; have cr1 := kept hb22 cr1; have cs1 := kept hb22 cs1; have cq1 := kept hb22 cq1; have er1 := er1.below hb22; have es1 := es1.below hb22; have eq1 := eq1.below hb22; have d0 := kept hb22 d0; have d1 := kept hb22 d1
   rw [<- HC.out]
   go_wp2_with fail
   have hz0 : Below wr.drew.heap.size wr.drew w22 := bwT
   first | (refine hK _ _ ⟨hz0, ?_⟩; clear hK K) | refine ⟨hz0, ?_⟩
   clear hz0
   refine norm_K fun K hK => ?_
   change wpList _ _ _ [_, _, _] _ _
   go_wp2_with fail
   refine (smod_c (by omega) (by omega)).mono ?_; rintro e w23 ⟨rfl, rfl⟩
   go_wp2_with fail
   first | (refine hK _ _ ⟨rfl, ?_⟩; clear hK K) | refine ⟨rfl, ?_⟩
   go_wp2_with fail
   go_ret
   exact ⟨by rw [show a1 * b1 * c1 + cy - a1 * m0 - b1 * m1 - c1 * m2 = a1 * b1 * c1 - a1 * m0 - b1 * m1 - c1 * m2 + cy by omega]; rfl, bwC hbw0 (bwC hb bwT)⟩
end Go.Proofs.YtilgbekffbphgaaGreat
