import Derived.Test.YtilgbekffbphgaaGreatJal
namespace Go.Proofs.YtilgbekffbphgaaGreat
open Go.RowKit
theorem Ev.plus {p k : Int} {n : Nat} {xs ys : List Int} (hp : 1 <= p) (h : Ev p n xs) (h' : Ev p n ys) : Ev p n (plusL p xs ys k) := ⟨by rw [plusL_len (by rw [h.1, h'.1])]; exact h.1, plusL_fp hp⟩
theorem Ev.scale {p k : Int} {n : Nat} {xs : List Int} (hp : 1 <= p) (h : Ev p n xs) : Ev p n (scaleL p xs k) := ⟨by rw [scaleL_len]; exact h.1, scaleL_fp hp⟩
theorem Ev.zero {p : Int} {n : Nat} (hp : 1 <= p) : Ev p n (List.replicate n 0) := ⟨List.length_replicate, fun x hx => by have := List.eq_of_mem_replicate hx; omega⟩
theorem Ev.one {p : Int} {n i : Nat} (hp : 2 <= p) : Ev p n (oneL n i) := ⟨oneL_len, oneL_fp hp⟩
theorem entryH_ev {p : Int} {n : Nat} {X : Her} {i j : Nat} (hp : 2 <= p) (hX : isH p n X = true) (hi : i < 3) (hj : j < 3) : Ev p n (entryH p n X i j) := by
 obtain ⟨a, b, c, u, v, t, rfl, h1, h2, h3, h4, h5, h6, eu, ev, et⟩ := isH_op hX
 have z : ∀ k, Ev p n (scaleL p (oneL n 0) k) := fun k => Ev.scale (by omega) (Ev.one hp)
 have c1 := eu.conj (p := p) (by omega)
 have c2 := ev.conj (p := p) (by omega)
 have c3 := et.conj (p := p) (by omega)
 rcases (show i = 0 \/ i = 1 \/ i = 2 by omega) with rfl | rfl | rfl <;> rcases (show j = 0 \/ j = 1 \/ j = 2 by omega) with rfl | rfl | rfl
 ·exact z a
 ·exact et
 ·exact c2
 ·exact c3
 ·exact z b
 ·exact eu
 ·exact ev
 ·exact c1
 ·exact z c
set_option maxRecDepth 100000 in
theorem ent00 {p : Int} {s x : Value} {st : List Int} {X : Her} {w : World} (hd : Dok p st) (hs : El w s st) (hx : Hv w x X) (hX : isH p (sz st.length) X = true) :
  Calls Tryz.prog 122 #[.agg #[.int .i64 p, s], x, .int .i64 0, .int .i64 0] w fun e w' => ∃ v, e = .returned v /\ El w' v (entryH p (sz st.length) X 0 0) /\ Below w.heap.size w w' := by
 have hp1 := hd.hp.lo
 have hp2 := hd.hp.hi
 have hsz := sz_le hd
 obtain ⟨a0, c0, rfl, _⟩ := id hs.op
 obtain ⟨a1, b1, c1, u1, v1, t1, bd1, od1, cd1, bu1, ou1, cu1, r1, s1, q1, rfl, rfl, ba1, bb1, bc1, eu1, ev1, et1, ca1, cb1, cc1, cr1, cs1, cq1, er1, es1, eq1, kd1, ku1⟩ := Hv.op3 hx hX
 rw [show entryH p (sz st.length) ⟨[a1, b1, c1], [u1, v1, t1]⟩ 0 0 = scaleL p (oneL (sz st.length) 0) a1 from rfl]
 go_enter Tryz.func122, Tryz.ntmps122
 have hb0 : Below w.heap.size w ((w.alloc (.cells #[.int .i64 p, .slice a0 st.length c0] 26)).alloc (.cells #[.slice (some ⟨bd1, od1, none⟩) 3 cd1, .slice (some ⟨bu1, ou1, none⟩) 3 cu1] 29)) := bwT
 have hs := hs.below hb0; have ca1 := kept hb0 ca1
 have d0 : ((w.alloc (.cells #[.int .i64 p, .slice a0 st.length c0] 26)).alloc (.cells #[.slice (some ⟨bd1, od1, none⟩) 3 cd1, .slice (some ⟨bu1, ou1, none⟩) 3 cu1] 29)).cell? ⟨w.heap.size, 0, none⟩ = some (.int .i64 p) := by simp [go_sem]
 have d1 : ((w.alloc (.cells #[.int .i64 p, .slice a0 st.length c0] 26)).alloc (.cells #[.slice (some ⟨bd1, od1, none⟩) 3 cd1, .slice (some ⟨bu1, ou1, none⟩) 3 cu1] 29)).cell? ⟨w.heap.size, 1, none⟩ = some (.slice a0 st.length c0) := by simp [go_sem]
 have e0 : ((w.alloc (.cells #[.int .i64 p, .slice a0 st.length c0] 26)).alloc (.cells #[.slice (some ⟨bd1, od1, none⟩) 3 cd1, .slice (some ⟨bu1, ou1, none⟩) 3 cu1] 29)).cell? ⟨w.heap.size + 1, 0, none⟩ = some (.slice (some ⟨bd1, od1, none⟩) 3 cd1) := by simp [go_sem]
 have e1 : ((w.alloc (.cells #[.int .i64 p, .slice a0 st.length c0] 26)).alloc (.cells #[.slice (some ⟨bd1, od1, none⟩) 3 cd1, .slice (some ⟨bu1, ou1, none⟩) 3 cu1] 29)).cell? ⟨w.heap.size + 1, 1, none⟩ = some (.slice (some ⟨bu1, ou1, none⟩) 3 cu1) := by simp [go_sem]
 go_wp2_with fail
 refine region_flow [(false, [(0, 1), (2, 1), (4, 0), (5, 1), (6, 0), (7, 0), (8, 1), (1, 5)]), (false, [(3, 5)]), (false, [(9, 4), (10, 0)])] (by kernel_rfl) ?_
 refine norm_K fun K hK => ?_
 change wpList _ _ _ [_, _, _, _, _, _, _, _] _ _
 have hb1 : Below ((w.alloc (.cells #[.int .i64 p, .slice a0 st.length c0] 26)).alloc (.cells #[.slice (some ⟨bd1, od1, none⟩) 3 cd1, .slice (some ⟨bu1, ou1, none⟩) 3 cu1] 29)).heap.size ((w.alloc (.cells #[.int .i64 p, .slice a0 st.length c0] 26)).alloc (.cells #[.slice (some ⟨bd1, od1, none⟩) 3 cd1, .slice (some ⟨bu1, ou1, none⟩) 3 cu1] 29)) ((w.alloc (.cells #[.int .i64 p, .slice a0 st.length c0] 26)).alloc (.cells #[.slice (some ⟨bd1, od1, none⟩) 3 cd1, .slice (some ⟨bu1, ou1, none⟩) 3 cu1] 29)).drew := bwT
 have hs := hs.below hb1; have ca1 := kept hb1 ca1; have d0 := kept hb1 d0; have d1 := kept hb1 d1; have e0 := kept hb1 e0; have e1 := kept hb1 e1
 go_wp2_with fail
 refine (dfield_c).mono ?_; rintro e w2 ⟨rfl, hb2⟩
 have hs := hs.below hb2; have ca1 := kept hb2 ca1; have d0 := kept hb2 d0; have d1 := kept hb2 d1; have e0 := kept hb2 e0; have e1 := kept hb2 e1
 go_wp2_with fail
 have hz0 : Below ((w.alloc (.cells #[.int .i64 p, .slice a0 st.length c0] 26)).alloc (.cells #[.slice (some ⟨bd1, od1, none⟩) 3 cd1, .slice (some ⟨bu1, ou1, none⟩) 3 cu1] 29)).drew.heap.size ((w.alloc (.cells #[.int .i64 p, .slice a0 st.length c0] 26)).alloc (.cells #[.slice (some ⟨bd1, od1, none⟩) 3 cd1, .slice (some ⟨bu1, ou1, none⟩) 3 cu1] 29)).drew w2 := bwT
 first | (refine hK _ _ ⟨hz0, ?_⟩; clear hK K) | refine ⟨hz0, ?_⟩
 clear hz0
 refine norm_K fun K hK => ?_
 change wpList _ _ _ [_] _ _
 go_wp2_with fail
 refine (elem_c (i := 0) hd hs (by omega)).mono ?_; rintro e w3 ⟨v, rfl, hv, hb3⟩
 have hs := hs.below hb3; have ca1 := kept hb3 ca1; have d0 := kept hb3 d0; have d1 := kept hb3 d1; have e0 := kept hb3 e0; have e1 := kept hb3 e1
 go_wp2_with fail
 have hz1 : Below ((w.alloc (.cells #[.int .i64 p, .slice a0 st.length c0] 26)).alloc (.cells #[.slice (some ⟨bd1, od1, none⟩) 3 cd1, .slice (some ⟨bu1, ou1, none⟩) 3 cu1] 29)).drew.heap.size ((w.alloc (.cells #[.int .i64 p, .slice a0 st.length c0] 26)).alloc (.cells #[.slice (some ⟨bd1, od1, none⟩) 3 cd1, .slice (some ⟨bu1, ou1, none⟩) 3 cu1] 29)).drew w3 := bwT
 first | (refine hK _ _ ⟨hz1, ?_⟩; clear hK K) | refine ⟨hz1, ?_⟩
 clear hz1
 refine norm_K fun K hK => ?_
 change wpList _ _ _ [_, _] _ _
 go_wp2_with fail
 refine (scaled_c (k := a1) (by omega) (by omega) (by omega) (by omega) hv.sl ((oneL_fp (p := p) (by omega)).sm (by omega) (by omega)) (by rw [oneL_len]; omega)).mono ?_; rintro e w4 ⟨z, rfl, hz, hb4⟩
 have hs := hs.below hb4; have ca1 := kept hb4 ca1; have d0 := kept hb4 d0; have d1 := kept hb4 d1; have e0 := kept hb4 e0; have e1 := kept hb4 e1; have hv := hv.below hb4
 go_wp2_with fail
 first | (refine hK _ _ ⟨rfl, ?_⟩; clear hK K) | refine ⟨rfl, ?_⟩
 go_wp2_with fail
 go_ret
 exact ⟨_, rfl, hz.el, bwT⟩
set_option maxRecDepth 100000 in
theorem ent01 {p : Int} {s x : Value} {st : List Int} {X : Her} {w : World} (hd : Dok p st) (hs : El w s st) (hx : Hv w x X) (hX : isH p (sz st.length) X = true) :
  Calls Tryz.prog 122 #[.agg #[.int .i64 p, s], x, .int .i64 0, .int .i64 1] w fun e w' => ∃ v, e = .returned v /\ El w' v (entryH p (sz st.length) X 0 1) /\ Below w.heap.size w w' := by
 have hp1 := hd.hp.lo
 have hp2 := hd.hp.hi
 have hsz := sz_le hd
 obtain ⟨a0, c0, rfl, _⟩ := id hs.op
 obtain ⟨a1, b1, c1, u1, v1, t1, bd1, od1, cd1, bu1, ou1, cu1, r1, s1, q1, rfl, rfl, ba1, bb1, bc1, eu1, ev1, et1, ca1, cb1, cc1, cr1, cs1, cq1, er1, es1, eq1, kd1, ku1⟩ := Hv.op3 hx hX
 rw [show entryH p (sz st.length) ⟨[a1, b1, c1], [u1, v1, t1]⟩ 0 1 = t1 from rfl]
 obtain ⟨a9, c9, rfl, _⟩ := id eq1.op
 have HL := Lib.hid et1.1
 go_enter Tryz.func122, Tryz.ntmps122
 have hb0 : Below w.heap.size w ((w.alloc (.cells #[.int .i64 p, .slice a0 st.length c0] 26)).alloc (.cells #[.slice (some ⟨bd1, od1, none⟩) 3 cd1, .slice (some ⟨bu1, ou1, none⟩) 3 cu1] 29)) := bwT
 have hs := hs.below hb0; have cq1 := kept hb0 cq1; have eq1 := eq1.below hb0
 have d0 : ((w.alloc (.cells #[.int .i64 p, .slice a0 st.length c0] 26)).alloc (.cells #[.slice (some ⟨bd1, od1, none⟩) 3 cd1, .slice (some ⟨bu1, ou1, none⟩) 3 cu1] 29)).cell? ⟨w.heap.size, 0, none⟩ = some (.int .i64 p) := by simp [go_sem]
 have d1 : ((w.alloc (.cells #[.int .i64 p, .slice a0 st.length c0] 26)).alloc (.cells #[.slice (some ⟨bd1, od1, none⟩) 3 cd1, .slice (some ⟨bu1, ou1, none⟩) 3 cu1] 29)).cell? ⟨w.heap.size, 1, none⟩ = some (.slice a0 st.length c0) := by simp [go_sem]
 have e0 : ((w.alloc (.cells #[.int .i64 p, .slice a0 st.length c0] 26)).alloc (.cells #[.slice (some ⟨bd1, od1, none⟩) 3 cd1, .slice (some ⟨bu1, ou1, none⟩) 3 cu1] 29)).cell? ⟨w.heap.size + 1, 0, none⟩ = some (.slice (some ⟨bd1, od1, none⟩) 3 cd1) := by simp [go_sem]
 have e1 : ((w.alloc (.cells #[.int .i64 p, .slice a0 st.length c0] 26)).alloc (.cells #[.slice (some ⟨bd1, od1, none⟩) 3 cd1, .slice (some ⟨bu1, ou1, none⟩) 3 cu1] 29)).cell? ⟨w.heap.size + 1, 1, none⟩ = some (.slice (some ⟨bu1, ou1, none⟩) 3 cu1) := by simp [go_sem]
 go_wp2_with fail
 go_ret
 exact ⟨_, rfl, eq1, bwT⟩
set_option maxRecDepth 100000 in
theorem ent02 {p : Int} {s x : Value} {st : List Int} {X : Her} {w : World} (hd : Dok p st) (hs : El w s st) (hx : Hv w x X) (hX : isH p (sz st.length) X = true) :
  Calls Tryz.prog 122 #[.agg #[.int .i64 p, s], x, .int .i64 0, .int .i64 2] w fun e w' => ∃ v, e = .returned v /\ El w' v (entryH p (sz st.length) X 0 2) /\ Below w.heap.size w w' := by
 have hp1 := hd.hp.lo
 have hp2 := hd.hp.hi
 have hsz := sz_le hd
 obtain ⟨a0, c0, rfl, _⟩ := id hs.op
 obtain ⟨a1, b1, c1, u1, v1, t1, bd1, od1, cd1, bu1, ou1, cu1, r1, s1, q1, rfl, rfl, ba1, bb1, bc1, eu1, ev1, et1, ca1, cb1, cc1, cr1, cs1, cq1, er1, es1, eq1, kd1, ku1⟩ := Hv.op3 hx hX
 rw [show entryH p (sz st.length) ⟨[a1, b1, c1], [u1, v1, t1]⟩ 0 2 = conjL p v1 from rfl]
 obtain ⟨a9, c9, rfl, _⟩ := id es1.op
 have HL := Lib.hid ev1.1
 go_enter Tryz.func122, Tryz.ntmps122
 have hb0 : Below w.heap.size w ((w.alloc (.cells #[.int .i64 p, .slice a0 st.length c0] 26)).alloc (.cells #[.slice (some ⟨bd1, od1, none⟩) 3 cd1, .slice (some ⟨bu1, ou1, none⟩) 3 cu1] 29)) := bwT
 have hs := hs.below hb0; have cs1 := kept hb0 cs1; have es1 := es1.below hb0
 have d0 : ((w.alloc (.cells #[.int .i64 p, .slice a0 st.length c0] 26)).alloc (.cells #[.slice (some ⟨bd1, od1, none⟩) 3 cd1, .slice (some ⟨bu1, ou1, none⟩) 3 cu1] 29)).cell? ⟨w.heap.size, 0, none⟩ = some (.int .i64 p) := by simp [go_sem]
 have d1 : ((w.alloc (.cells #[.int .i64 p, .slice a0 st.length c0] 26)).alloc (.cells #[.slice (some ⟨bd1, od1, none⟩) 3 cd1, .slice (some ⟨bu1, ou1, none⟩) 3 cu1] 29)).cell? ⟨w.heap.size, 1, none⟩ = some (.slice a0 st.length c0) := by simp [go_sem]
 have e0 : ((w.alloc (.cells #[.int .i64 p, .slice a0 st.length c0] 26)).alloc (.cells #[.slice (some ⟨bd1, od1, none⟩) 3 cd1, .slice (some ⟨bu1, ou1, none⟩) 3 cu1] 29)).cell? ⟨w.heap.size + 1, 0, none⟩ = some (.slice (some ⟨bd1, od1, none⟩) 3 cd1) := by simp [go_sem]
 have e1 : ((w.alloc (.cells #[.int .i64 p, .slice a0 st.length c0] 26)).alloc (.cells #[.slice (some ⟨bd1, od1, none⟩) 3 cd1, .slice (some ⟨bu1, ou1, none⟩) 3 cu1] 29)).cell? ⟨w.heap.size + 1, 1, none⟩ = some (.slice (some ⟨bu1, ou1, none⟩) 3 cu1) := by simp [go_sem]
 go_wp2_with fail
 refine (dfield_c).mono ?_; rintro e w1 ⟨rfl, hb1⟩
 have hs := hs.below hb1; have cs1 := kept hb1 cs1; have es1 := es1.below hb1; have d0 := kept hb1 d0; have d1 := kept hb1 d1; have e0 := kept hb1 e0; have e1 := kept hb1 e1
 go_wp2_with fail
 refine (conj_c (by omega) (by omega) es1 (by have := HL.out; omega) ev1.2 (by have := HL.out; omega)).mono ?_; rintro e w2 ⟨z, rfl, hz, hb2⟩
 have hs := hs.below hb2; have cs1 := kept hb2 cs1; have es1 := es1.below hb2; have d0 := kept hb2 d0; have d1 := kept hb2 d1; have e0 := kept hb2 e0; have e1 := kept hb2 e1
 go_wp2_with fail
 go_ret
 exact ⟨_, rfl, hz.el, bwT⟩
set_option maxRecDepth 100000 in
theorem ent10 {p : Int} {s x : Value} {st : List Int} {X : Her} {w : World} (hd : Dok p st) (hs : El w s st) (hx : Hv w x X) (hX : isH p (sz st.length) X = true) :
  Calls Tryz.prog 122 #[.agg #[.int .i64 p, s], x, .int .i64 1, .int .i64 0] w fun e w' => ∃ v, e = .returned v /\ El w' v (entryH p (sz st.length) X 1 0) /\ Below w.heap.size w w' := by
 have hp1 := hd.hp.lo
 have hp2 := hd.hp.hi
 have hsz := sz_le hd
 obtain ⟨a0, c0, rfl, _⟩ := id hs.op
 obtain ⟨a1, b1, c1, u1, v1, t1, bd1, od1, cd1, bu1, ou1, cu1, r1, s1, q1, rfl, rfl, ba1, bb1, bc1, eu1, ev1, et1, ca1, cb1, cc1, cr1, cs1, cq1, er1, es1, eq1, kd1, ku1⟩ := Hv.op3 hx hX
 rw [show entryH p (sz st.length) ⟨[a1, b1, c1], [u1, v1, t1]⟩ 1 0 = conjL p t1 from rfl]
 obtain ⟨a9, c9, rfl, _⟩ := id eq1.op
 have HL := Lib.hid et1.1
 go_enter Tryz.func122, Tryz.ntmps122
 have hb0 : Below w.heap.size w ((w.alloc (.cells #[.int .i64 p, .slice a0 st.length c0] 26)).alloc (.cells #[.slice (some ⟨bd1, od1, none⟩) 3 cd1, .slice (some ⟨bu1, ou1, none⟩) 3 cu1] 29)) := bwT
 have hs := hs.below hb0; have cq1 := kept hb0 cq1; have eq1 := eq1.below hb0
 have d0 : ((w.alloc (.cells #[.int .i64 p, .slice a0 st.length c0] 26)).alloc (.cells #[.slice (some ⟨bd1, od1, none⟩) 3 cd1, .slice (some ⟨bu1, ou1, none⟩) 3 cu1] 29)).cell? ⟨w.heap.size, 0, none⟩ = some (.int .i64 p) := by simp [go_sem]
 have d1 : ((w.alloc (.cells #[.int .i64 p, .slice a0 st.length c0] 26)).alloc (.cells #[.slice (some ⟨bd1, od1, none⟩) 3 cd1, .slice (some ⟨bu1, ou1, none⟩) 3 cu1] 29)).cell? ⟨w.heap.size, 1, none⟩ = some (.slice a0 st.length c0) := by simp [go_sem]
 have e0 : ((w.alloc (.cells #[.int .i64 p, .slice a0 st.length c0] 26)).alloc (.cells #[.slice (some ⟨bd1, od1, none⟩) 3 cd1, .slice (some ⟨bu1, ou1, none⟩) 3 cu1] 29)).cell? ⟨w.heap.size + 1, 0, none⟩ = some (.slice (some ⟨bd1, od1, none⟩) 3 cd1) := by simp [go_sem]
 have e1 : ((w.alloc (.cells #[.int .i64 p, .slice a0 st.length c0] 26)).alloc (.cells #[.slice (some ⟨bd1, od1, none⟩) 3 cd1, .slice (some ⟨bu1, ou1, none⟩) 3 cu1] 29)).cell? ⟨w.heap.size + 1, 1, none⟩ = some (.slice (some ⟨bu1, ou1, none⟩) 3 cu1) := by simp [go_sem]
 go_wp2_with fail
 refine (dfield_c).mono ?_; rintro e w1 ⟨rfl, hb1⟩
 have hs := hs.below hb1; have cq1 := kept hb1 cq1; have eq1 := eq1.below hb1; have d0 := kept hb1 d0; have d1 := kept hb1 d1; have e0 := kept hb1 e0; have e1 := kept hb1 e1
 go_wp2_with fail
 refine (conj_c (by omega) (by omega) eq1 (by have := HL.out; omega) et1.2 (by have := HL.out; omega)).mono ?_; rintro e w2 ⟨z, rfl, hz, hb2⟩
 have hs := hs.below hb2; have cq1 := kept hb2 cq1; have eq1 := eq1.below hb2; have d0 := kept hb2 d0; have d1 := kept hb2 d1; have e0 := kept hb2 e0; have e1 := kept hb2 e1
 go_wp2_with fail
 go_ret
 exact ⟨_, rfl, hz.el, bwT⟩
set_option maxRecDepth 100000 in
theorem ent11 {p : Int} {s x : Value} {st : List Int} {X : Her} {w : World} (hd : Dok p st) (hs : El w s st) (hx : Hv w x X) (hX : isH p (sz st.length) X = true) :
  Calls Tryz.prog 122 #[.agg #[.int .i64 p, s], x, .int .i64 1, .int .i64 1] w fun e w' => ∃ v, e = .returned v /\ El w' v (entryH p (sz st.length) X 1 1) /\ Below w.heap.size w w' := by
 have hp1 := hd.hp.lo
 have hp2 := hd.hp.hi
 have hsz := sz_le hd
 obtain ⟨a0, c0, rfl, _⟩ := id hs.op
 obtain ⟨a1, b1, c1, u1, v1, t1, bd1, od1, cd1, bu1, ou1, cu1, r1, s1, q1, rfl, rfl, ba1, bb1, bc1, eu1, ev1, et1, ca1, cb1, cc1, cr1, cs1, cq1, er1, es1, eq1, kd1, ku1⟩ := Hv.op3 hx hX
 rw [show entryH p (sz st.length) ⟨[a1, b1, c1], [u1, v1, t1]⟩ 1 1 = scaleL p (oneL (sz st.length) 0) b1 from rfl]
 go_enter Tryz.func122, Tryz.ntmps122
 have hb0 : Below w.heap.size w ((w.alloc (.cells #[.int .i64 p, .slice a0 st.length c0] 26)).alloc (.cells #[.slice (some ⟨bd1, od1, none⟩) 3 cd1, .slice (some ⟨bu1, ou1, none⟩) 3 cu1] 29)) := bwT
 have hs := hs.below hb0; have cb1 := kept hb0 cb1
 have d0 : ((w.alloc (.cells #[.int .i64 p, .slice a0 st.length c0] 26)).alloc (.cells #[.slice (some ⟨bd1, od1, none⟩) 3 cd1, .slice (some ⟨bu1, ou1, none⟩) 3 cu1] 29)).cell? ⟨w.heap.size, 0, none⟩ = some (.int .i64 p) := by simp [go_sem]
 have d1 : ((w.alloc (.cells #[.int .i64 p, .slice a0 st.length c0] 26)).alloc (.cells #[.slice (some ⟨bd1, od1, none⟩) 3 cd1, .slice (some ⟨bu1, ou1, none⟩) 3 cu1] 29)).cell? ⟨w.heap.size, 1, none⟩ = some (.slice a0 st.length c0) := by simp [go_sem]
 have e0 : ((w.alloc (.cells #[.int .i64 p, .slice a0 st.length c0] 26)).alloc (.cells #[.slice (some ⟨bd1, od1, none⟩) 3 cd1, .slice (some ⟨bu1, ou1, none⟩) 3 cu1] 29)).cell? ⟨w.heap.size + 1, 0, none⟩ = some (.slice (some ⟨bd1, od1, none⟩) 3 cd1) := by simp [go_sem]
 have e1 : ((w.alloc (.cells #[.int .i64 p, .slice a0 st.length c0] 26)).alloc (.cells #[.slice (some ⟨bd1, od1, none⟩) 3 cd1, .slice (some ⟨bu1, ou1, none⟩) 3 cu1] 29)).cell? ⟨w.heap.size + 1, 1, none⟩ = some (.slice (some ⟨bu1, ou1, none⟩) 3 cu1) := by simp [go_sem]
 go_wp2_with fail
 refine region_flow [(false, [(0, 1), (2, 1), (4, 0), (5, 1), (6, 0), (7, 0), (8, 1), (1, 5)]), (false, [(3, 5)]), (false, [(9, 4), (10, 0)])] (by kernel_rfl) ?_
 refine norm_K fun K hK => ?_
 change wpList _ _ _ [_, _, _, _, _, _, _, _] _ _
 have hb1 : Below ((w.alloc (.cells #[.int .i64 p, .slice a0 st.length c0] 26)).alloc (.cells #[.slice (some ⟨bd1, od1, none⟩) 3 cd1, .slice (some ⟨bu1, ou1, none⟩) 3 cu1] 29)).heap.size ((w.alloc (.cells #[.int .i64 p, .slice a0 st.length c0] 26)).alloc (.cells #[.slice (some ⟨bd1, od1, none⟩) 3 cd1, .slice (some ⟨bu1, ou1, none⟩) 3 cu1] 29)) ((w.alloc (.cells #[.int .i64 p, .slice a0 st.length c0] 26)).alloc (.cells #[.slice (some ⟨bd1, od1, none⟩) 3 cd1, .slice (some ⟨bu1, ou1, none⟩) 3 cu1] 29)).drew := bwT
 have hs := hs.below hb1; have cb1 := kept hb1 cb1; have d0 := kept hb1 d0; have d1 := kept hb1 d1; have e0 := kept hb1 e0; have e1 := kept hb1 e1
 go_wp2_with fail
 refine (dfield_c).mono ?_; rintro e w2 ⟨rfl, hb2⟩
 have hs := hs.below hb2; have cb1 := kept hb2 cb1; have d0 := kept hb2 d0; have d1 := kept hb2 d1; have e0 := kept hb2 e0; have e1 := kept hb2 e1
 go_wp2_with fail
 have hz0 : Below ((w.alloc (.cells #[.int .i64 p, .slice a0 st.length c0] 26)).alloc (.cells #[.slice (some ⟨bd1, od1, none⟩) 3 cd1, .slice (some ⟨bu1, ou1, none⟩) 3 cu1] 29)).drew.heap.size ((w.alloc (.cells #[.int .i64 p, .slice a0 st.length c0] 26)).alloc (.cells #[.slice (some ⟨bd1, od1, none⟩) 3 cd1, .slice (some ⟨bu1, ou1, none⟩) 3 cu1] 29)).drew w2 := bwT
 first | (refine hK _ _ ⟨hz0, ?_⟩; clear hK K) | refine ⟨hz0, ?_⟩
 clear hz0
 refine norm_K fun K hK => ?_
 change wpList _ _ _ [_] _ _
 go_wp2_with fail
 refine (elem_c (i := 0) hd hs (by omega)).mono ?_; rintro e w3 ⟨v, rfl, hv, hb3⟩
 have hs := hs.below hb3; have cb1 := kept hb3 cb1; have d0 := kept hb3 d0; have d1 := kept hb3 d1; have e0 := kept hb3 e0; have e1 := kept hb3 e1
 go_wp2_with fail
 have hz1 : Below ((w.alloc (.cells #[.int .i64 p, .slice a0 st.length c0] 26)).alloc (.cells #[.slice (some ⟨bd1, od1, none⟩) 3 cd1, .slice (some ⟨bu1, ou1, none⟩) 3 cu1] 29)).drew.heap.size ((w.alloc (.cells #[.int .i64 p, .slice a0 st.length c0] 26)).alloc (.cells #[.slice (some ⟨bd1, od1, none⟩) 3 cd1, .slice (some ⟨bu1, ou1, none⟩) 3 cu1] 29)).drew w3 := bwT
 first | (refine hK _ _ ⟨hz1, ?_⟩; clear hK K) | refine ⟨hz1, ?_⟩
 clear hz1
 refine norm_K fun K hK => ?_
 change wpList _ _ _ [_, _] _ _
 go_wp2_with fail
 refine (scaled_c (k := b1) (by omega) (by omega) (by omega) (by omega) hv.sl ((oneL_fp (p := p) (by omega)).sm (by omega) (by omega)) (by rw [oneL_len]; omega)).mono ?_; rintro e w4 ⟨z, rfl, hz, hb4⟩
 have hs := hs.below hb4; have cb1 := kept hb4 cb1; have d0 := kept hb4 d0; have d1 := kept hb4 d1; have e0 := kept hb4 e0; have e1 := kept hb4 e1; have hv := hv.below hb4
 go_wp2_with fail
 first | (refine hK _ _ ⟨rfl, ?_⟩; clear hK K) | refine ⟨rfl, ?_⟩
 go_wp2_with fail
 go_ret
 exact ⟨_, rfl, hz.el, bwT⟩
set_option maxRecDepth 100000 in
theorem ent12 {p : Int} {s x : Value} {st : List Int} {X : Her} {w : World} (hd : Dok p st) (hs : El w s st) (hx : Hv w x X) (hX : isH p (sz st.length) X = true) :
  Calls Tryz.prog 122 #[.agg #[.int .i64 p, s], x, .int .i64 1, .int .i64 2] w fun e w' => ∃ v, e = .returned v /\ El w' v (entryH p (sz st.length) X 1 2) /\ Below w.heap.size w w' := by
 have hp1 := hd.hp.lo
 have hp2 := hd.hp.hi
 have hsz := sz_le hd
 obtain ⟨a0, c0, rfl, _⟩ := id hs.op
 obtain ⟨a1, b1, c1, u1, v1, t1, bd1, od1, cd1, bu1, ou1, cu1, r1, s1, q1, rfl, rfl, ba1, bb1, bc1, eu1, ev1, et1, ca1, cb1, cc1, cr1, cs1, cq1, er1, es1, eq1, kd1, ku1⟩ := Hv.op3 hx hX
 rw [show entryH p (sz st.length) ⟨[a1, b1, c1], [u1, v1, t1]⟩ 1 2 = u1 from rfl]
 obtain ⟨a9, c9, rfl, _⟩ := id er1.op
 have HL := Lib.hid eu1.1
 go_enter Tryz.func122, Tryz.ntmps122
 have hb0 : Below w.heap.size w ((w.alloc (.cells #[.int .i64 p, .slice a0 st.length c0] 26)).alloc (.cells #[.slice (some ⟨bd1, od1, none⟩) 3 cd1, .slice (some ⟨bu1, ou1, none⟩) 3 cu1] 29)) := bwT
 have hs := hs.below hb0; have cr1 := kept hb0 cr1; have er1 := er1.below hb0
 have d0 : ((w.alloc (.cells #[.int .i64 p, .slice a0 st.length c0] 26)).alloc (.cells #[.slice (some ⟨bd1, od1, none⟩) 3 cd1, .slice (some ⟨bu1, ou1, none⟩) 3 cu1] 29)).cell? ⟨w.heap.size, 0, none⟩ = some (.int .i64 p) := by simp [go_sem]
 have d1 : ((w.alloc (.cells #[.int .i64 p, .slice a0 st.length c0] 26)).alloc (.cells #[.slice (some ⟨bd1, od1, none⟩) 3 cd1, .slice (some ⟨bu1, ou1, none⟩) 3 cu1] 29)).cell? ⟨w.heap.size, 1, none⟩ = some (.slice a0 st.length c0) := by simp [go_sem]
 have e0 : ((w.alloc (.cells #[.int .i64 p, .slice a0 st.length c0] 26)).alloc (.cells #[.slice (some ⟨bd1, od1, none⟩) 3 cd1, .slice (some ⟨bu1, ou1, none⟩) 3 cu1] 29)).cell? ⟨w.heap.size + 1, 0, none⟩ = some (.slice (some ⟨bd1, od1, none⟩) 3 cd1) := by simp [go_sem]
 have e1 : ((w.alloc (.cells #[.int .i64 p, .slice a0 st.length c0] 26)).alloc (.cells #[.slice (some ⟨bd1, od1, none⟩) 3 cd1, .slice (some ⟨bu1, ou1, none⟩) 3 cu1] 29)).cell? ⟨w.heap.size + 1, 1, none⟩ = some (.slice (some ⟨bu1, ou1, none⟩) 3 cu1) := by simp [go_sem]
 go_wp2_with fail
 go_ret
 exact ⟨_, rfl, er1, bwT⟩
set_option maxRecDepth 100000 in
theorem ent20 {p : Int} {s x : Value} {st : List Int} {X : Her} {w : World} (hd : Dok p st) (hs : El w s st) (hx : Hv w x X) (hX : isH p (sz st.length) X = true) :
  Calls Tryz.prog 122 #[.agg #[.int .i64 p, s], x, .int .i64 2, .int .i64 0] w fun e w' => ∃ v, e = .returned v /\ El w' v (entryH p (sz st.length) X 2 0) /\ Below w.heap.size w w' := by
 have hp1 := hd.hp.lo
 have hp2 := hd.hp.hi
 have hsz := sz_le hd
 obtain ⟨a0, c0, rfl, _⟩ := id hs.op
 obtain ⟨a1, b1, c1, u1, v1, t1, bd1, od1, cd1, bu1, ou1, cu1, r1, s1, q1, rfl, rfl, ba1, bb1, bc1, eu1, ev1, et1, ca1, cb1, cc1, cr1, cs1, cq1, er1, es1, eq1, kd1, ku1⟩ := Hv.op3 hx hX
 rw [show entryH p (sz st.length) ⟨[a1, b1, c1], [u1, v1, t1]⟩ 2 0 = v1 from rfl]
 obtain ⟨a9, c9, rfl, _⟩ := id es1.op
 have HL := Lib.hid ev1.1
 go_enter Tryz.func122, Tryz.ntmps122
 have hb0 : Below w.heap.size w ((w.alloc (.cells #[.int .i64 p, .slice a0 st.length c0] 26)).alloc (.cells #[.slice (some ⟨bd1, od1, none⟩) 3 cd1, .slice (some ⟨bu1, ou1, none⟩) 3 cu1] 29)) := bwT
 have hs := hs.below hb0; have cs1 := kept hb0 cs1; have es1 := es1.below hb0
 have d0 : ((w.alloc (.cells #[.int .i64 p, .slice a0 st.length c0] 26)).alloc (.cells #[.slice (some ⟨bd1, od1, none⟩) 3 cd1, .slice (some ⟨bu1, ou1, none⟩) 3 cu1] 29)).cell? ⟨w.heap.size, 0, none⟩ = some (.int .i64 p) := by simp [go_sem]
 have d1 : ((w.alloc (.cells #[.int .i64 p, .slice a0 st.length c0] 26)).alloc (.cells #[.slice (some ⟨bd1, od1, none⟩) 3 cd1, .slice (some ⟨bu1, ou1, none⟩) 3 cu1] 29)).cell? ⟨w.heap.size, 1, none⟩ = some (.slice a0 st.length c0) := by simp [go_sem]
 have e0 : ((w.alloc (.cells #[.int .i64 p, .slice a0 st.length c0] 26)).alloc (.cells #[.slice (some ⟨bd1, od1, none⟩) 3 cd1, .slice (some ⟨bu1, ou1, none⟩) 3 cu1] 29)).cell? ⟨w.heap.size + 1, 0, none⟩ = some (.slice (some ⟨bd1, od1, none⟩) 3 cd1) := by simp [go_sem]
 have e1 : ((w.alloc (.cells #[.int .i64 p, .slice a0 st.length c0] 26)).alloc (.cells #[.slice (some ⟨bd1, od1, none⟩) 3 cd1, .slice (some ⟨bu1, ou1, none⟩) 3 cu1] 29)).cell? ⟨w.heap.size + 1, 1, none⟩ = some (.slice (some ⟨bu1, ou1, none⟩) 3 cu1) := by simp [go_sem]
 go_wp2_with fail
 go_ret
 exact ⟨_, rfl, es1, bwT⟩
set_option maxRecDepth 100000 in
theorem ent21 {p : Int} {s x : Value} {st : List Int} {X : Her} {w : World} (hd : Dok p st) (hs : El w s st) (hx : Hv w x X) (hX : isH p (sz st.length) X = true) :
  Calls Tryz.prog 122 #[.agg #[.int .i64 p, s], x, .int .i64 2, .int .i64 1] w fun e w' => ∃ v, e = .returned v /\ El w' v (entryH p (sz st.length) X 2 1) /\ Below w.heap.size w w' := by
 have hp1 := hd.hp.lo
 have hp2 := hd.hp.hi
 have hsz := sz_le hd
 obtain ⟨a0, c0, rfl, _⟩ := id hs.op
 obtain ⟨a1, b1, c1, u1, v1, t1, bd1, od1, cd1, bu1, ou1, cu1, r1, s1, q1, rfl, rfl, ba1, bb1, bc1, eu1, ev1, et1, ca1, cb1, cc1, cr1, cs1, cq1, er1, es1, eq1, kd1, ku1⟩ := Hv.op3 hx hX
 rw [show entryH p (sz st.length) ⟨[a1, b1, c1], [u1, v1, t1]⟩ 2 1 = conjL p u1 from rfl]
 obtain ⟨a9, c9, rfl, _⟩ := id er1.op
 have HL := Lib.hid eu1.1
 go_enter Tryz.func122, Tryz.ntmps122
 have hb0 : Below w.heap.size w ((w.alloc (.cells #[.int .i64 p, .slice a0 st.length c0] 26)).alloc (.cells #[.slice (some ⟨bd1, od1, none⟩) 3 cd1, .slice (some ⟨bu1, ou1, none⟩) 3 cu1] 29)) := bwT
 have hs := hs.below hb0; have cr1 := kept hb0 cr1; have er1 := er1.below hb0
 have d0 : ((w.alloc (.cells #[.int .i64 p, .slice a0 st.length c0] 26)).alloc (.cells #[.slice (some ⟨bd1, od1, none⟩) 3 cd1, .slice (some ⟨bu1, ou1, none⟩) 3 cu1] 29)).cell? ⟨w.heap.size, 0, none⟩ = some (.int .i64 p) := by simp [go_sem]
 have d1 : ((w.alloc (.cells #[.int .i64 p, .slice a0 st.length c0] 26)).alloc (.cells #[.slice (some ⟨bd1, od1, none⟩) 3 cd1, .slice (some ⟨bu1, ou1, none⟩) 3 cu1] 29)).cell? ⟨w.heap.size, 1, none⟩ = some (.slice a0 st.length c0) := by simp [go_sem]
 have e0 : ((w.alloc (.cells #[.int .i64 p, .slice a0 st.length c0] 26)).alloc (.cells #[.slice (some ⟨bd1, od1, none⟩) 3 cd1, .slice (some ⟨bu1, ou1, none⟩) 3 cu1] 29)).cell? ⟨w.heap.size + 1, 0, none⟩ = some (.slice (some ⟨bd1, od1, none⟩) 3 cd1) := by simp [go_sem]
 have e1 : ((w.alloc (.cells #[.int .i64 p, .slice a0 st.length c0] 26)).alloc (.cells #[.slice (some ⟨bd1, od1, none⟩) 3 cd1, .slice (some ⟨bu1, ou1, none⟩) 3 cu1] 29)).cell? ⟨w.heap.size + 1, 1, none⟩ = some (.slice (some ⟨bu1, ou1, none⟩) 3 cu1) := by simp [go_sem]
 go_wp2_with fail
 refine (dfield_c).mono ?_; rintro e w1 ⟨rfl, hb1⟩
 have hs := hs.below hb1; have cr1 := kept hb1 cr1; have er1 := er1.below hb1; have d0 := kept hb1 d0; have d1 := kept hb1 d1; have e0 := kept hb1 e0; have e1 := kept hb1 e1
 go_wp2_with fail
 refine (conj_c (by omega) (by omega) er1 (by have := HL.out; omega) eu1.2 (by have := HL.out; omega)).mono ?_; rintro e w2 ⟨z, rfl, hz, hb2⟩
 have hs := hs.below hb2; have cr1 := kept hb2 cr1; have er1 := er1.below hb2; have d0 := kept hb2 d0; have d1 := kept hb2 d1; have e0 := kept hb2 e0; have e1 := kept hb2 e1
 go_wp2_with fail
 go_ret
 exact ⟨_, rfl, hz.el, bwT⟩
set_option maxRecDepth 100000 in
theorem ent22 {p : Int} {s x : Value} {st : List Int} {X : Her} {w : World} (hd : Dok p st) (hs : El w s st) (hx : Hv w x X) (hX : isH p (sz st.length) X = true) :
  Calls Tryz.prog 122 #[.agg #[.int .i64 p, s], x, .int .i64 2, .int .i64 2] w fun e w' => ∃ v, e = .returned v /\ El w' v (entryH p (sz st.length) X 2 2) /\ Below w.heap.size w w' := by
 have hp1 := hd.hp.lo
 have hp2 := hd.hp.hi
 have hsz := sz_le hd
 obtain ⟨a0, c0, rfl, _⟩ := id hs.op
 obtain ⟨a1, b1, c1, u1, v1, t1, bd1, od1, cd1, bu1, ou1, cu1, r1, s1, q1, rfl, rfl, ba1, bb1, bc1, eu1, ev1, et1, ca1, cb1, cc1, cr1, cs1, cq1, er1, es1, eq1, kd1, ku1⟩ := Hv.op3 hx hX
 rw [show entryH p (sz st.length) ⟨[a1, b1, c1], [u1, v1, t1]⟩ 2 2 = scaleL p (oneL (sz st.length) 0) c1 from rfl]
 go_enter Tryz.func122, Tryz.ntmps122
 have hb0 : Below w.heap.size w ((w.alloc (.cells #[.int .i64 p, .slice a0 st.length c0] 26)).alloc (.cells #[.slice (some ⟨bd1, od1, none⟩) 3 cd1, .slice (some ⟨bu1, ou1, none⟩) 3 cu1] 29)) := bwT
 have hs := hs.below hb0; have cc1 := kept hb0 cc1
 have d0 : ((w.alloc (.cells #[.int .i64 p, .slice a0 st.length c0] 26)).alloc (.cells #[.slice (some ⟨bd1, od1, none⟩) 3 cd1, .slice (some ⟨bu1, ou1, none⟩) 3 cu1] 29)).cell? ⟨w.heap.size, 0, none⟩ = some (.int .i64 p) := by simp [go_sem]
 have d1 : ((w.alloc (.cells #[.int .i64 p, .slice a0 st.length c0] 26)).alloc (.cells #[.slice (some ⟨bd1, od1, none⟩) 3 cd1, .slice (some ⟨bu1, ou1, none⟩) 3 cu1] 29)).cell? ⟨w.heap.size, 1, none⟩ = some (.slice a0 st.length c0) := by simp [go_sem]
 have e0 : ((w.alloc (.cells #[.int .i64 p, .slice a0 st.length c0] 26)).alloc (.cells #[.slice (some ⟨bd1, od1, none⟩) 3 cd1, .slice (some ⟨bu1, ou1, none⟩) 3 cu1] 29)).cell? ⟨w.heap.size + 1, 0, none⟩ = some (.slice (some ⟨bd1, od1, none⟩) 3 cd1) := by simp [go_sem]
 have e1 : ((w.alloc (.cells #[.int .i64 p, .slice a0 st.length c0] 26)).alloc (.cells #[.slice (some ⟨bd1, od1, none⟩) 3 cd1, .slice (some ⟨bu1, ou1, none⟩) 3 cu1] 29)).cell? ⟨w.heap.size + 1, 1, none⟩ = some (.slice (some ⟨bu1, ou1, none⟩) 3 cu1) := by simp [go_sem]
 go_wp2_with fail
 refine region_flow [(false, [(0, 1), (2, 1), (4, 0), (5, 1), (6, 0), (7, 0), (8, 1), (1, 5)]), (false, [(3, 5)]), (false, [(9, 4), (10, 0)])] (by kernel_rfl) ?_
 refine norm_K fun K hK => ?_
 change wpList _ _ _ [_, _, _, _, _, _, _, _] _ _
 have hb1 : Below ((w.alloc (.cells #[.int .i64 p, .slice a0 st.length c0] 26)).alloc (.cells #[.slice (some ⟨bd1, od1, none⟩) 3 cd1, .slice (some ⟨bu1, ou1, none⟩) 3 cu1] 29)).heap.size ((w.alloc (.cells #[.int .i64 p, .slice a0 st.length c0] 26)).alloc (.cells #[.slice (some ⟨bd1, od1, none⟩) 3 cd1, .slice (some ⟨bu1, ou1, none⟩) 3 cu1] 29)) ((w.alloc (.cells #[.int .i64 p, .slice a0 st.length c0] 26)).alloc (.cells #[.slice (some ⟨bd1, od1, none⟩) 3 cd1, .slice (some ⟨bu1, ou1, none⟩) 3 cu1] 29)).drew := bwT
 have hs := hs.below hb1; have cc1 := kept hb1 cc1; have d0 := kept hb1 d0; have d1 := kept hb1 d1; have e0 := kept hb1 e0; have e1 := kept hb1 e1
 go_wp2_with fail
 refine (dfield_c).mono ?_; rintro e w2 ⟨rfl, hb2⟩
 have hs := hs.below hb2; have cc1 := kept hb2 cc1; have d0 := kept hb2 d0; have d1 := kept hb2 d1; have e0 := kept hb2 e0; have e1 := kept hb2 e1
 go_wp2_with fail
 have hz0 : Below ((w.alloc (.cells #[.int .i64 p, .slice a0 st.length c0] 26)).alloc (.cells #[.slice (some ⟨bd1, od1, none⟩) 3 cd1, .slice (some ⟨bu1, ou1, none⟩) 3 cu1] 29)).drew.heap.size ((w.alloc (.cells #[.int .i64 p, .slice a0 st.length c0] 26)).alloc (.cells #[.slice (some ⟨bd1, od1, none⟩) 3 cd1, .slice (some ⟨bu1, ou1, none⟩) 3 cu1] 29)).drew w2 := bwT
 first | (refine hK _ _ ⟨hz0, ?_⟩; clear hK K) | refine ⟨hz0, ?_⟩
 clear hz0
 refine norm_K fun K hK => ?_
 change wpList _ _ _ [_] _ _
 go_wp2_with fail
 refine (elem_c (i := 0) hd hs (by omega)).mono ?_; rintro e w3 ⟨v, rfl, hv, hb3⟩
 have hs := hs.below hb3; have cc1 := kept hb3 cc1; have d0 := kept hb3 d0; have d1 := kept hb3 d1; have e0 := kept hb3 e0; have e1 := kept hb3 e1
 go_wp2_with fail
 have hz1 : Below ((w.alloc (.cells #[.int .i64 p, .slice a0 st.length c0] 26)).alloc (.cells #[.slice (some ⟨bd1, od1, none⟩) 3 cd1, .slice (some ⟨bu1, ou1, none⟩) 3 cu1] 29)).drew.heap.size ((w.alloc (.cells #[.int .i64 p, .slice a0 st.length c0] 26)).alloc (.cells #[.slice (some ⟨bd1, od1, none⟩) 3 cd1, .slice (some ⟨bu1, ou1, none⟩) 3 cu1] 29)).drew w3 := bwT
 first | (refine hK _ _ ⟨hz1, ?_⟩; clear hK K) | refine ⟨hz1, ?_⟩
 clear hz1
 refine norm_K fun K hK => ?_
 change wpList _ _ _ [_, _] _ _
 go_wp2_with fail
 refine (scaled_c (k := c1) (by omega) (by omega) (by omega) (by omega) hv.sl ((oneL_fp (p := p) (by omega)).sm (by omega) (by omega)) (by rw [oneL_len]; omega)).mono ?_; rintro e w4 ⟨z, rfl, hz, hb4⟩
 have hs := hs.below hb4; have cc1 := kept hb4 cc1; have d0 := kept hb4 d0; have d1 := kept hb4 d1; have e0 := kept hb4 e0; have e1 := kept hb4 e1; have hv := hv.below hb4
 go_wp2_with fail
 first | (refine hK _ _ ⟨rfl, ?_⟩; clear hK K) | refine ⟨rfl, ?_⟩
 go_wp2_with fail
 go_ret
 exact ⟨_, rfl, hz.el, bwT⟩
theorem ent_c {p : Int} {s x : Value} {st : List Int} {X : Her} {i j : Nat} {w : World} (hd : Dok p st) (hs : El w s st) (hx : Hv w x X) (hX : isH p (sz st.length) X = true) (hi : i < 3) (hj : j < 3) :
  Calls Tryz.prog 122 #[.agg #[.int .i64 p, s], x, .int .i64 i, .int .i64 j] w fun e w' => ∃ v, e = .returned v /\ El w' v (entryH p (sz st.length) X i j) /\ Below w.heap.size w w' := by
 rcases (show i = 0 \/ i = 1 \/ i = 2 by omega) with rfl | rfl | rfl <;> rcases (show j = 0 \/ j = 1 \/ j = 2 by omega) with rfl | rfl | rfl
 ·exact ent00 hd hs hx hX
 ·exact ent01 hd hs hx hX
 ·exact ent02 hd hs hx hX
 ·exact ent10 hd hs hx hX
 ·exact ent11 hd hs hx hX
 ·exact ent12 hd hs hx hX
 ·exact ent20 hd hs hx hX
 ·exact ent21 hd hs hx hX
 ·exact ent22 hd hs hx hX
end Go.Proofs.YtilgbekffbphgaaGreat
