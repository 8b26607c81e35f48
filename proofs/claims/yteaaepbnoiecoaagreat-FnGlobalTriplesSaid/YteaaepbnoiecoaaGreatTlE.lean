import Derived.Test.YteaaepbnoiecoaaGreatTlB
import Derived.Test.YteaaepbnoiecoaaGreatTlC
import Derived.Test.YteaaepbnoiecoaaGreatTlD
namespace Go.Proofs.YteaaepbnoiecoaaGreat
open Go.RowKit
set_option maxRecDepth 100000 in
theorem loc1_c {p : Int} {x v r : Value} {q q2 : Nat} {st row list : List Int} {w : World} (h0 : w.cell? ⟨q, 0, none⟩ = some (.int .i64 p)) (h1 : w.cell? ⟨q, 1, none⟩ = some x) (h2 : w.cell? ⟨q2, 0, none⟩ = some v) (hd : Dok p st) (hx : El w x st)
  (hv : El w v list) (hr : El w r row) (fl : Fp p list) (fr : Fp p row) (hl : list.length = row.length) (hm : row.length <= 1000) :
  Calls Tryz.prog 29 #[r, .pointer (some ⟨q, 0, none⟩), .pointer (some ⟨q2, 0, none⟩)] w fun e w' => e = .returned (.bool (!decide (dotL p row list = 0))) /\ Below w.heap.size w w' := by
 have hp1 := hd.hp.lo; have hp2 := hd.hp.hi
 obtain ⟨a, c, rfl, _⟩ := id hx.op
 obtain ⟨av, cv, rfl, _⟩ := id hv.op
 obtain ⟨ar, cr, rfl, _⟩ := id hr.op
 have hdot := fun W h1 h2 => dot_c (w := W) (p := p) (x := .slice ar row.length cr) (y := .slice av list.length cv) (by omega) (by omega) h1 h2 (fr.sm (by omega) (by omega)) (fl.sm (by omega) (by omega)) hl (by omega)
 obtain ⟨t, ht⟩ : ∃ t, t = dotL p row list := ⟨_, rfl⟩
 simp only [<- ht] at hdot ⊢
 clear ht
 have hcmp : (t != 0) = !decide (t = 0) := by
  by_cases h : t = 0
  ·simp [h]
  ·simp [h]
 have HC := Lib.hid hcmp; clear hcmp hl
 go_enter Tryz.func29, Tryz.ntmps29
 go_wp2_with fail
 refine region_flow [(false, [(0, 1), (2, 0), (3, 1), (1, 5)]), (false, [(4, 4), (5, 0), (6, 0)])] (by kernel_rfl) ?_
 refine norm_K fun K hK => ?_
 change wpList _ _ _ [_, _, _, _] _ _
 have hb21 : Below w.heap.size w w.drew := bwT
 have h0 := kept hb21 h0; have h1 := kept hb21 h1; have h2 := kept hb21 h2; have hx := hx.below hb21; have hv := hv.below hb21; have hr := hr.below hb21
 generalize w.drew = wq at *
 go_wp2_with fail
 refine (dfield_c).mono ?_; rintro e w22 ⟨rfl, hb22⟩
 have h0 := kept hb22 h0; have h1 := kept hb22 h1; have h2 := kept hb22 h2; have hx := hx.below hb22; have hv := hv.below hb22; have hr := hr.below hb22
 go_wp2_with fail
 have hz0 : Below wq.heap.size wq w22 := bwT
 first | (refine hK _ _ ⟨hz0, ?_⟩; clear hK K) | refine ⟨hz0, ?_⟩
 clear hz0
 refine norm_K fun K hK => ?_
 change wpList _ _ _ [_, _, _] _ _
 go_wp2_with fail
 refine (hdot _ hr.sl hv.sl).mono ?_; rintro e w23 ⟨rfl, rfl⟩
 go_wp2_with fail
 first | (refine hK _ _ ⟨rfl, ?_⟩; clear hK K) | refine ⟨rfl, ?_⟩
 go_wp2_with fail
 go_ret
 exact ⟨by rw [<- HC.out]; rfl, bwT⟩
set_option maxRecDepth 100000 in
theorem idxloc_c {p : Int} {x v l : Value} {q q2 : Nat} {st list : List Int} {rows : List (List Int)} {w : World} (h0 : w.cell? ⟨q, 0, none⟩ = some (.int .i64 p)) (h1 : w.cell? ⟨q, 1, none⟩ = some x) (h2 : w.cell? ⟨q2, 0, none⟩ = some v) (hd : Dok p st) (hx : El w x st)
  (hv : El w v list) (hl : Re w l rows) (fl : Fp p list) (hrw : ∀ r ∈ rows, Fp p r /\ list.length = r.length /\ r.length <= 1000) (hm1 : rows.length <= 1048576) :
  Calls Tryz.prog 69 #[l, .func (Fn.func 29) #[] #[.pointer (some ⟨q, 0, none⟩), .pointer (some ⟨q2, 0, none⟩)]] w fun e w' =>
   ∃ k : Int, e = .returned (.int .i64 k) /\ Found k (!rows.all fun r => decide (dotL p r list = 0)) /\ -1 <= k /\ k <= 1048576 /\ Below w.heap.size w w' := by
 obtain ⟨f, hf⟩ : ∃ f : List Int -> Bool, f = fun r => decide (dotL p r list = 0) := ⟨_, rfl⟩
 have hfe : ∀ r, decide (dotL p r list = 0) = f r := fun r => by rw [hf]
 rw [<- hf]
 have HFE := Lib.hid hfe
 clear hf hfe
 obtain ⟨a, c, rfl, _, _, rfl | ⟨b, off, rfl, hl⟩⟩ := hl
 ·go_enter Tryz.func69, Tryz.ntmps69
  go_wp2
  refine wp_loop_rounds 1 ?_; rw [rounds_succ]
  go_wp2; go_ret; exact ⟨_, rfl, (rfl : decide _ = _), by decide, by decide, Below.refl _ _⟩
 go_enter Tryz.func69, Tryz.ntmps69
 go_wp2
 go_loopw [8] (fun i wr => ∃ k : Nat, k <= rows.length /\ i = .int .i64 k /\ (rows.take k).all f = true /\ Below w.heap.size w wr) (fun i _ => rows.length - (intOf i).toNat)
 case atStart => exact ⟨0, Nat.zero_le _, rfl, rfl, Below.refl _ _⟩
 case round =>
  obtain ⟨k, hk, rfl, hr, hb⟩ := hrel
  by_cases hlt : k < rows.length
  ·obtain ⟨a1, c1, xs, hxs, hc0, hs0, ht⟩ := Re.get hl hlt
   have hc := kept hb hc0
   have hs := hs0.below hb
   have g0 := kept hb h0
   have g1 := kept hb h1
   have g2 := kept hb h2
   have gx := hx.below hb
   have gv := hv.below hb
   obtain ⟨fx, lx, mx⟩ := hrw xs hxs
   have hcon := loc1_c (w := wr) g0 g1 g2 hd gx gv hs fl fx lx mx
   rw [HFE.out] at hcon
   have H := Lib.hid (And.intro (all_snoc hr ht) (@all_no _ f _ _ hxs)); clear hr ht lx
   cases hvv : f xs
   ·rw [hvv] at hcon
    go_wp2_with (go_at_call 29; refine hcon.mono ?_; rintro e w1 ⟨rfl, hb1⟩)
    go_ret
    exact ⟨_, rfl, by rw [H.out.2 hvv]; unfold Found; simp, by omega, by omega, bwC hb hb1⟩
   ·rw [hvv] at hcon
    go_wp2_with (go_at_call 29; refine hcon.mono ?_; rintro e w1 ⟨rfl, hb1⟩)
    go_roundw
    case rel => exact ⟨k + 1, by omega, by go_num, by rw [H.out.1, hvv], bwC hb hb1⟩
    case measure => simp [intOf]; omega
  ·have e : rows.take k = rows := take_all (by omega)
   rw [e] at hr
   have H := Lib.hid hr; clear hr e
   go_wp2
   go_ret
   exact ⟨_, rfl, by rw [H.out]; unfold Found; rfl, by decide, by decide, hb⟩
set_option maxRecDepth 100000 in
theorem conloc_c {p : Int} {x v l : Value} {q q2 : Nat} {st list : List Int} {rows : List (List Int)} {w : World} (h0 : w.cell? ⟨q, 0, none⟩ = some (.int .i64 p)) (h1 : w.cell? ⟨q, 1, none⟩ = some x) (h2 : w.cell? ⟨q2, 0, none⟩ = some v) (hd : Dok p st) (hx : El w x st)
  (hv : El w v list) (hl : Re w l rows) (fl : Fp p list) (hrw : ∀ r ∈ rows, Fp p r /\ list.length = r.length /\ r.length <= 1000) (hm1 : rows.length <= 1048576) :
  Calls Tryz.prog 27 #[l, .func (Fn.func 29) #[] #[.pointer (some ⟨q, 0, none⟩), .pointer (some ⟨q2, 0, none⟩)]] w fun e w' =>
   e = .returned (.bool (!rows.all fun r => decide (dotL p r list = 0))) /\ Below w.heap.size w w' := by
 obtain ⟨a2, c2, rfl, _⟩ := id hl
 go_enter Tryz.func27, Tryz.ntmps27
 go_wp2_with (go_at_call 69; refine (idxloc_c h0 h1 h2 hd hx hv hl fl hrw hm1).mono ?_; rintro e w1 ⟨k, rfl, hk, hk1, hk2, hb1⟩; unfold Found at hk; have H := Lib.hid hk; clear hk)
 go_ret
 exact ⟨by rw [<- H.out]; rfl, hb1⟩
theorem locL_mem {p : Int} {n : Nat} {D : Nat -> Int} {F : Nat -> Nat -> Nat -> Int} (hp : 1 <= p) (hD : ∀ i, 0 <= D i /\ D i < p) {r : List Int} (h : r ∈ locL p n D F) : Fp p r /\ r.length = 3 * n * n := by
 unfold locL at h
 rcases List.mem_append.1 h with h | h
 ·unfold skP skI skK at h
  obtain ⟨t, _, h⟩ := List.mem_flatMap.1 h
  obtain ⟨i, _, h⟩ := List.mem_flatMap.1 h
  obtain ⟨k, _, rfl⟩ := List.mem_map.1 h
  exact ⟨addAt_fp hp (set_fp (zeros_fp hp) (hD i)), skewRow_len⟩
 ·unfold foI foJ foK at h
  obtain ⟨t, _, h⟩ := List.mem_flatMap.1 h
  obtain ⟨i, _, h⟩ := List.mem_flatMap.1 h
  obtain ⟨k, _, rfl⟩ := List.mem_map.1 h
  exact ⟨formRow_fp hp _, formRow_len _⟩
theorem locL_len {p : Int} {n : Nat} {D : Nat -> Int} {F : Nat -> Nat -> Nat -> Int} (hn : n <= 8) : (locL p n D F).length <= 2000 := by
 have hb : ∀ {f : Nat -> List (List Int)} {B : Nat} {c : Nat}, (∀ i, i < c -> (f i).length <= B) -> ((List.range c).flatMap f).length <= c * B := by
  intro f B c h
  induction c with
  | zero => simp
  | succ c ih =>
   rw [List.range_succ, List.flatMap_append, List.length_append, Nat.succ_mul, show [c].flatMap f = f c by simp]
   exact Nat.add_le_add (ih fun i hi => h i (by omega)) (h c (by omega))
 unfold locL
 rw [List.length_append]
 have h1 : (skP p n D 3).length <= 3 * (8 * 9) := hb fun t _ => by
  have h2 : (skI p n D t n).length <= n * 9 := hb fun i hi => by unfold skK; simp; omega
  exact Nat.le_trans h2 (Nat.mul_le_mul_right 9 hn)
 have h2 : (foI p n F n).length <= n * (8 * 8) := hb fun i _ => by
  have h3 : (foJ p n F i n).length <= n * 8 := hb fun j _ => by unfold foK; simp; omega
  exact Nat.le_trans h3 (Nat.mul_le_mul_right 8 hn)
 have h3 : n * (8 * 8) <= 8 * (8 * 8) := Nat.mul_le_mul_right _ hn
 omega
set_option maxHeartbeats 4000000 in
theorem iIsLocalTriple_c {p0 : Int} {x0 : Value} {st0 : List Int} {x1 : Value} {A1 B1 C1 : List (List Int)} {w : World} (hx0 : El w x0 st0) (hm0 : st0.length <= 1048576) (hx1 : Tv w x1 A1 B1 C1) (hm1 : Tsz A1 B1 C1) :
  Calls Tryz.prog 8 #[.agg #[.int .i64 p0, x0], x1] w fun e w' => e = .returned (.tuple #[.bool (RIsLocalTriple0 p0 st0 A1 B1 C1), .int .i64 (RIsLocalTriple1 p0 st0 A1 B1 C1)]) /\ Below w.heap.size w w' := by
 obtain ⟨a0, c0, rfl, _⟩ := id hx0.op
 obtain ⟨va, vb, vc, rfl, hA, hB, hC⟩ := id hx1
 obtain ⟨a1, c1, rfl, _⟩ := id hA
 obtain ⟨a2, c2, rfl, _⟩ := id hB
 obtain ⟨a3, c3, rfl, _⟩ := id hC
 have hchk := fun W bl k h0 l0 l1 l2 hA hB hC => chktr_c (w := W) (bl := bl) (k := k) (p := p0) (x := .slice a0 st0.length c0) (a := .slice a1 A1.length c1) (b := .slice a2 B1.length c2) (c := .slice a3 C1.length c3) h0 l0 l1 l2 hA hB hC hm0 hm1
 by_cases h0 : chkT p0 st0 [A1, B1, C1] = 0
 case neg =>
  rw [show RIsLocalTriple0 p0 st0 A1 B1 C1 = false from if_neg h0, show RIsLocalTriple1 p0 st0 A1 B1 C1 = chkT p0 st0 [A1, B1, C1] from rfl]
  obtain ⟨r, hr⟩ : ∃ r, r = chkT p0 st0 [A1, B1, C1] := ⟨_, rfl⟩
  simp only [<- hr] at hchk h0 ⊢
  clear hr
  have hne : (r == 0) = false := by simpa using h0
  go_enter Tryz.func8, Tryz.ntmps8
  have hb0 : Below w.heap.size w ((w.alloc (.cells #[.int .i64 p0, .slice a0 st0.length c0] 26)).alloc (.cells #[.slice a1 A1.length c1, .slice a2 B1.length c2, .slice a3 C1.length c3] 29)) := bwT
  have hx0 := hx0.below hb0; have hA := hA.below hb0; have hB := hB.below hb0; have hC := hC.below hb0
  have d0 : ((w.alloc (.cells #[.int .i64 p0, .slice a0 st0.length c0] 26)).alloc (.cells #[.slice a1 A1.length c1, .slice a2 B1.length c2, .slice a3 C1.length c3] 29)).cell? ⟨w.heap.size, 0, none⟩ = some (.int .i64 p0) := by simp [go_sem]
  have d1 : ((w.alloc (.cells #[.int .i64 p0, .slice a0 st0.length c0] 26)).alloc (.cells #[.slice a1 A1.length c1, .slice a2 B1.length c2, .slice a3 C1.length c3] 29)).cell? ⟨w.heap.size, 1, none⟩ = some (.slice a0 st0.length c0) := by simp [go_sem]
  have e0 : ((w.alloc (.cells #[.int .i64 p0, .slice a0 st0.length c0] 26)).alloc (.cells #[.slice a1 A1.length c1, .slice a2 B1.length c2, .slice a3 C1.length c3] 29)).cell? ⟨w.heap.size + 1, 0, none⟩ = some (.slice a1 A1.length c1) := by simp [go_sem]
  have e1 : ((w.alloc (.cells #[.int .i64 p0, .slice a0 st0.length c0] 26)).alloc (.cells #[.slice a1 A1.length c1, .slice a2 B1.length c2, .slice a3 C1.length c3] 29)).cell? ⟨w.heap.size + 1, 1, none⟩ = some (.slice a2 B1.length c2) := by simp [go_sem]
  have e2 : ((w.alloc (.cells #[.int .i64 p0, .slice a0 st0.length c0] 26)).alloc (.cells #[.slice a1 A1.length c1, .slice a2 B1.length c2, .slice a3 C1.length c3] 29)).cell? ⟨w.heap.size + 1, 2, none⟩ = some (.slice a3 C1.length c3) := by simp [go_sem]
  have hb1 : Below ((w.alloc (.cells #[.int .i64 p0, .slice a0 st0.length c0] 26)).alloc (.cells #[.slice a1 A1.length c1, .slice a2 B1.length c2, .slice a3 C1.length c3] 29)).heap.size ((w.alloc (.cells #[.int .i64 p0, .slice a0 st0.length c0] 26)).alloc (.cells #[.slice a1 A1.length c1, .slice a2 B1.length c2, .slice a3 C1.length c3] 29)) (((w.alloc (.cells #[.int .i64 p0, .slice a0 st0.length c0] 26)).alloc (.cells #[.slice a1 A1.length c1, .slice a2 B1.length c2, .slice a3 C1.length c3] 29)).alloc (.cells #[.slice a1 A1.length c1, .slice a2 B1.length c2, .slice a3 C1.length c3] 29)) := bwT
  have hx0 := hx0.below hb1; have hA := hA.below hb1; have hB := hB.below hb1; have hC := hC.below hb1; have d0 := kept hb1 d0; have d1 := kept hb1 d1; have e0 := kept hb1 e0; have e1 := kept hb1 e1; have e2 := kept hb1 e2
  have l0 : (((w.alloc (.cells #[.int .i64 p0, .slice a0 st0.length c0] 26)).alloc (.cells #[.slice a1 A1.length c1, .slice a2 B1.length c2, .slice a3 C1.length c3] 29)).alloc (.cells #[.slice a1 A1.length c1, .slice a2 B1.length c2, .slice a3 C1.length c3] 29)).cell? ⟨w.heap.size + 1 + 1, 0, none⟩ = some (.slice a1 A1.length c1) := by simp [go_sem]
  have l1 : (((w.alloc (.cells #[.int .i64 p0, .slice a0 st0.length c0] 26)).alloc (.cells #[.slice a1 A1.length c1, .slice a2 B1.length c2, .slice a3 C1.length c3] 29)).alloc (.cells #[.slice a1 A1.length c1, .slice a2 B1.length c2, .slice a3 C1.length c3] 29)).cell? ⟨w.heap.size + 1 + 1, 1, none⟩ = some (.slice a2 B1.length c2) := by simp [go_sem]
  have l2 : (((w.alloc (.cells #[.int .i64 p0, .slice a0 st0.length c0] 26)).alloc (.cells #[.slice a1 A1.length c1, .slice a2 B1.length c2, .slice a3 C1.length c3] 29)).alloc (.cells #[.slice a1 A1.length c1, .slice a2 B1.length c2, .slice a3 C1.length c3] 29)).cell? ⟨w.heap.size + 1 + 1, 2, none⟩ = some (.slice a3 C1.length c3) := by simp [go_sem]
  go_wp2_with fail
  refine (hchk _ _ _ hx0 l0 l1 l2 hA hB hC).mono ?_; rintro e w2 ⟨rfl, hb2⟩
  have hx0 := hx0.below hb2; have hA := hA.below hb2; have hB := hB.below hb2; have hC := hC.below hb2; have d0 := kept hb2 d0; have d1 := kept hb2 d1; have e0 := kept hb2 e0; have e1 := kept hb2 e1; have e2 := kept hb2 e2; have l0 := kept hb2 l0; have l1 := kept hb2 l1; have l2 := kept hb2 l2
  go_wp2_with fail
  go_ret2
  exact ⟨rfl, bwT⟩
 obtain ⟨hd, mA, mB, mC⟩ := chkT_ok h0
 have hp1 := hd.hp.lo; have hp2 := hd.hp.hi; have hl3 := hd.hl; have hsz := sz_le hd
 rw [show RIsLocalTriple0 p0 st0 A1 B1 C1 = locB p0 st0 A1 B1 C1 from if_pos h0, show RIsLocalTriple1 p0 st0 A1 B1 C1 = 0 from h0, <- loc_eq hd mA mB mC]
 simp only [h0] at hchk
 clear h0
 have hDb : ∀ i, 0 <= (diagF p0 st0).getD i 0 /\ (diagF p0 st0).getD i 0 < p0 := fun i => (diagF_fp (p := p0) (st := st0) (by omega)).g0 (by omega) i
 have htl := trip_len mA mB mC
 have hL0 : 3 * sz st0.length * sz st0.length <= 192 := by
  rw [Nat.mul_assoc]
  have := Nat.mul_le_mul hsz.2 hsz.2
  omega
 have htf : Fp p0 (tripL A1 B1 C1) := fun y hy => by
  unfold tripL at hy
  obtain ⟨r, hr, hy⟩ := List.mem_flatten.1 hy
  rcases List.mem_append.1 hr with hr | hr
  ·rcases List.mem_append.1 hr with hr | hr
   ·exact ((matB_iff.1 mA).2 r hr).2 y hy
   ·exact ((matB_iff.1 mB).2 r hr).2 y hy
  ·exact ((matB_iff.1 mC).2 r hr).2 y hy
 have hrw : ∀ r ∈ locL p0 (sz st0.length) (fun i => (diagF p0 st0).getD i 0) (cycF p0 st0), Fp p0 r /\ (tripL A1 B1 C1).length = r.length /\ r.length <= 1000 := fun r hr => by
  obtain ⟨h1, h2⟩ := locL_mem (by omega) hDb hr
  exact ⟨h1, htl.trans h2.symm, by omega⟩
 have hrl := locL_len (p := p0) (n := sz st0.length) (D := fun i => (diagF p0 st0).getD i 0) (F := cycF p0 st0) hsz.2
 have hlr := fun W h => locrows_c (w := W) (p := p0) (s := .slice a0 st0.length c0) hd h
 have htp := fun W h => triplist_c (p := p0) (w := W) (n := sz st0.length) (x := .agg #[.slice a1 A1.length c1, .slice a2 B1.length c2, .slice a3 C1.length c3]) h mA mB mC hsz.1 hsz.2
 have hKd : locK p0 st0 A1 B1 C1 = (locL p0 (sz st0.length) (fun i => (diagF p0 st0).getD i 0) (cycF p0 st0)).all fun row => decide (dotL p0 row (tripL A1 B1 C1) = 0) := rfl
 rw [hKd]
 obtain ⟨T, hT⟩ : ∃ T, T = tripL A1 B1 C1 := ⟨_, rfl⟩
 obtain ⟨R, hR⟩ : ∃ R, R = locL p0 (sz st0.length) (fun i => (diagF p0 st0).getD i 0) (cycF p0 st0) := ⟨_, rfl⟩
 simp only [<- hT, <- hR] at htf hrw hrl hlr htp ⊢
 have hcon := fun W v l q q2 h0 h1 h2 h3 h4 h5 => conloc_c (w := W) (p := p0) (x := .slice a0 st0.length c0) (v := v) (l := l) (q := q) (q2 := q2) (st := st0) (list := T) (rows := R) h0 h1 h2 hd h3 h4 h5 htf hrw (by omega)
 obtain ⟨z, hz⟩ : ∃ z, z = R.all fun row => decide (dotL p0 row T = 0) := ⟨_, rfl⟩
 simp only [<- hz] at hcon ⊢
 clear hz hKd hT hR htl htf hrw hDb mA mB mC
 go_enter Tryz.func8, Tryz.ntmps8
 have hb0 : Below w.heap.size w ((w.alloc (.cells #[.int .i64 p0, .slice a0 st0.length c0] 26)).alloc (.cells #[.slice a1 A1.length c1, .slice a2 B1.length c2, .slice a3 C1.length c3] 29)) := bwT
 have hx0 := hx0.below hb0; have hx1 := hx1.below hb0; have hA := hA.below hb0; have hB := hB.below hb0; have hC := hC.below hb0
 have d0 : ((w.alloc (.cells #[.int .i64 p0, .slice a0 st0.length c0] 26)).alloc (.cells #[.slice a1 A1.length c1, .slice a2 B1.length c2, .slice a3 C1.length c3] 29)).cell? ⟨w.heap.size, 0, none⟩ = some (.int .i64 p0) := by simp [go_sem]
 have d1 : ((w.alloc (.cells #[.int .i64 p0, .slice a0 st0.length c0] 26)).alloc (.cells #[.slice a1 A1.length c1, .slice a2 B1.length c2, .slice a3 C1.length c3] 29)).cell? ⟨w.heap.size, 1, none⟩ = some (.slice a0 st0.length c0) := by simp [go_sem]
 have e0 : ((w.alloc (.cells #[.int .i64 p0, .slice a0 st0.length c0] 26)).alloc (.cells #[.slice a1 A1.length c1, .slice a2 B1.length c2, .slice a3 C1.length c3] 29)).cell? ⟨w.heap.size + 1, 0, none⟩ = some (.slice a1 A1.length c1) := by simp [go_sem]
 have e1 : ((w.alloc (.cells #[.int .i64 p0, .slice a0 st0.length c0] 26)).alloc (.cells #[.slice a1 A1.length c1, .slice a2 B1.length c2, .slice a3 C1.length c3] 29)).cell? ⟨w.heap.size + 1, 1, none⟩ = some (.slice a2 B1.length c2) := by simp [go_sem]
 have e2 : ((w.alloc (.cells #[.int .i64 p0, .slice a0 st0.length c0] 26)).alloc (.cells #[.slice a1 A1.length c1, .slice a2 B1.length c2, .slice a3 C1.length c3] 29)).cell? ⟨w.heap.size + 1, 2, none⟩ = some (.slice a3 C1.length c3) := by simp [go_sem]
 have hb1 : Below ((w.alloc (.cells #[.int .i64 p0, .slice a0 st0.length c0] 26)).alloc (.cells #[.slice a1 A1.length c1, .slice a2 B1.length c2, .slice a3 C1.length c3] 29)).heap.size ((w.alloc (.cells #[.int .i64 p0, .slice a0 st0.length c0] 26)).alloc (.cells #[.slice a1 A1.length c1, .slice a2 B1.length c2, .slice a3 C1.length c3] 29)) (((w.alloc (.cells #[.int .i64 p0, .slice a0 st0.length c0] 26)).alloc (.cells #[.slice a1 A1.length c1, .slice a2 B1.length c2, .slice a3 C1.length c3] 29)).alloc (.cells #[.slice a1 A1.length c1, .slice a2 B1.length c2, .slice a3 C1.length c3] 29)) := bwT
 have hx0 := hx0.below hb1; have hx1 := hx1.below hb1; have hA := hA.below hb1; have hB := hB.below hb1; have hC := hC.below hb1; have d0 := kept hb1 d0; have d1 := kept hb1 d1; have e0 := kept hb1 e0; have e1 := kept hb1 e1; have e2 := kept hb1 e2
 have l0 : (((w.alloc (.cells #[.int .i64 p0, .slice a0 st0.length c0] 26)).alloc (.cells #[.slice a1 A1.length c1, .slice a2 B1.length c2, .slice a3 C1.length c3] 29)).alloc (.cells #[.slice a1 A1.length c1, .slice a2 B1.length c2, .slice a3 C1.length c3] 29)).cell? ⟨w.heap.size + 1 + 1, 0, none⟩ = some (.slice a1 A1.length c1) := by simp [go_sem]
 have l1 : (((w.alloc (.cells #[.int .i64 p0, .slice a0 st0.length c0] 26)).alloc (.cells #[.slice a1 A1.length c1, .slice a2 B1.length c2, .slice a3 C1.length c3] 29)).alloc (.cells #[.slice a1 A1.length c1, .slice a2 B1.length c2, .slice a3 C1.length c3] 29)).cell? ⟨w.heap.size + 1 + 1, 1, none⟩ = some (.slice a2 B1.length c2) := by simp [go_sem]
 have l2 : (((w.alloc (.cells #[.int .i64 p0, .slice a0 st0.length c0] 26)).alloc (.cells #[.slice a1 A1.length c1, .slice a2 B1.length c2, .slice a3 C1.length c3] 29)).alloc (.cells #[.slice a1 A1.length c1, .slice a2 B1.length c2, .slice a3 C1.length c3] 29)).cell? ⟨w.heap.size + 1 + 1, 2, none⟩ = some (.slice a3 C1.length c3) := by simp [go_sem]
 go_wp2_with fail
 refine (hchk _ _ _ hx0 l0 l1 l2 hA hB hC).mono ?_; rintro e w2 ⟨rfl, hb2⟩
 have hx0 := hx0.below hb2; have hx1 := hx1.below hb2; have hA := hA.below hb2; have hB := hB.below hb2; have hC := hC.below hb2; have d0 := kept hb2 d0; have d1 := kept hb2 d1; have e0 := kept hb2 e0; have e1 := kept hb2 e1; have e2 := kept hb2 e2; have l0 := kept hb2 l0; have l1 := kept hb2 l1; have l2 := kept hb2 l2
 go_wp2_with fail
 refine (htp _ hx1).mono ?_; rintro e w3 ⟨vt, rfl, hT, hb3⟩
 have hx0 := hx0.below hb3; have hx1 := hx1.below hb3; have d0 := kept hb3 d0; have d1 := kept hb3 d1; have e0 := kept hb3 e0; have e1 := kept hb3 e1; have e2 := kept hb3 e2
 obtain ⟨gt, kt, rfl, _⟩ := id hT
 have hb4 : Below w3.heap.size w3 (w3.alloc (.cells #[.slice (some ⟨gt, 0, none⟩) T.length kt] 24)) := bwT
 have hx0 := hx0.below hb4; have hx1 := hx1.below hb4; have d0 := kept hb4 d0; have d1 := kept hb4 d1; have e0 := kept hb4 e0; have e1 := kept hb4 e1; have e2 := kept hb4 e2; have hT := hT.below hb4
 have t0 : (w3.alloc (.cells #[.slice (some ⟨gt, 0, none⟩) T.length kt] 24)).cell? ⟨w3.heap.size, 0, none⟩ = some (.slice (some ⟨gt, 0, none⟩) T.length kt) := by simp [go_sem]
 go_wp2_with fail
 refine (hlr _ hx0).mono ?_; rintro e w5 ⟨vr, rfl, hR, hb5⟩
 have hx0 := hx0.below hb5; have hx1 := hx1.below hb5; have d0 := kept hb5 d0; have d1 := kept hb5 d1; have e0 := kept hb5 e0; have e1 := kept hb5 e1; have e2 := kept hb5 e2; have hT := hT.below hb5; have t0 := kept hb5 t0
 go_wp2_with fail
 refine (hcon _ _ _ _ _ d0 d1 t0 hx0 hT.el hR).mono ?_; rintro e w6 ⟨rfl, hb6⟩
 have hx0 := hx0.below hb6; have hx1 := hx1.below hb6; have d0 := kept hb6 d0; have d1 := kept hb6 d1; have e0 := kept hb6 e0; have e1 := kept hb6 e1; have e2 := kept hb6 e2; have hT := hT.below hb6; have t0 := kept hb6 t0; have hR := hR.below hb6
 go_wp2_with fail
 go_ret2
 exact ⟨by simp, bwT⟩
set_option maxHeartbeats 2000000 in
theorem sIsLocalTriple_c {p0 : Int} {x0 : Value} {st0 : List Int} {x1 : Value} {A1 B1 C1 : List (List Int)} {w : World} (hx0 : El w x0 st0) (hm0 : st0.length <= 1048576) (hx1 : Tv w x1 A1 B1 C1) (hm1 : Tsz A1 B1 C1) :
  Calls Tryz.prog 9 #[.agg #[.int .i64 p0, x0], x1] w fun e w' => e = .returned (.tuple #[.bool (RIsLocalTriple0 p0 st0 A1 B1 C1), .int .i64 (RIsLocalTriple1 p0 st0 A1 B1 C1)]) /\ Below w.heap.size w w' := by
 obtain ⟨a0, c0, rfl, _⟩ := id hx0.op
 obtain ⟨va, vb, vc, rfl, hA, hB, hC⟩ := id hx1
 obtain ⟨a1, c1, rfl, _⟩ := id hA
 obtain ⟨a2, c2, rfl, _⟩ := id hB
 obtain ⟨a3, c3, rfl, _⟩ := id hC
 have hchk := fun W bl k h0 l0 l1 l2 hA hB hC => sl15t_c (w := W) (bl := bl) (k := k) (p := p0) (x := .slice a0 st0.length c0) (a := .slice a1 A1.length c1) (b := .slice a2 B1.length c2) (c := .slice a3 C1.length c3) h0 l0 l1 l2 hA hB hC hm0 hm1
 by_cases h0 : chkT p0 st0 [A1, B1, C1] = 0
 case neg =>
  rw [show RIsLocalTriple0 p0 st0 A1 B1 C1 = false from if_neg h0, show RIsLocalTriple1 p0 st0 A1 B1 C1 = chkT p0 st0 [A1, B1, C1] from rfl]
  obtain ⟨r, hr⟩ : ∃ r, r = chkT p0 st0 [A1, B1, C1] := ⟨_, rfl⟩
  simp only [<- hr] at hchk h0 ⊢
  clear hr
  have hne : (r == 0) = false := by simpa using h0
  go_enter Tryz.func9, Tryz.ntmps9
  have hb0 : Below w.heap.size w ((w.alloc (.cells #[.int .i64 p0, .slice a0 st0.length c0] 26)).alloc (.cells #[.slice a1 A1.length c1, .slice a2 B1.length c2, .slice a3 C1.length c3] 29)) := bwT
  have hx0 := hx0.below hb0; have hA := hA.below hb0; have hB := hB.below hb0; have hC := hC.below hb0
  have d0 : ((w.alloc (.cells #[.int .i64 p0, .slice a0 st0.length c0] 26)).alloc (.cells #[.slice a1 A1.length c1, .slice a2 B1.length c2, .slice a3 C1.length c3] 29)).cell? ⟨w.heap.size, 0, none⟩ = some (.int .i64 p0) := by simp [go_sem]
  have d1 : ((w.alloc (.cells #[.int .i64 p0, .slice a0 st0.length c0] 26)).alloc (.cells #[.slice a1 A1.length c1, .slice a2 B1.length c2, .slice a3 C1.length c3] 29)).cell? ⟨w.heap.size, 1, none⟩ = some (.slice a0 st0.length c0) := by simp [go_sem]
  have e0 : ((w.alloc (.cells #[.int .i64 p0, .slice a0 st0.length c0] 26)).alloc (.cells #[.slice a1 A1.length c1, .slice a2 B1.length c2, .slice a3 C1.length c3] 29)).cell? ⟨w.heap.size + 1, 0, none⟩ = some (.slice a1 A1.length c1) := by simp [go_sem]
  have e1 : ((w.alloc (.cells #[.int .i64 p0, .slice a0 st0.length c0] 26)).alloc (.cells #[.slice a1 A1.length c1, .slice a2 B1.length c2, .slice a3 C1.length c3] 29)).cell? ⟨w.heap.size + 1, 1, none⟩ = some (.slice a2 B1.length c2) := by simp [go_sem]
  have e2 : ((w.alloc (.cells #[.int .i64 p0, .slice a0 st0.length c0] 26)).alloc (.cells #[.slice a1 A1.length c1, .slice a2 B1.length c2, .slice a3 C1.length c3] 29)).cell? ⟨w.heap.size + 1, 2, none⟩ = some (.slice a3 C1.length c3) := by simp [go_sem]
  have hb1 : Below ((w.alloc (.cells #[.int .i64 p0, .slice a0 st0.length c0] 26)).alloc (.cells #[.slice a1 A1.length c1, .slice a2 B1.length c2, .slice a3 C1.length c3] 29)).heap.size ((w.alloc (.cells #[.int .i64 p0, .slice a0 st0.length c0] 26)).alloc (.cells #[.slice a1 A1.length c1, .slice a2 B1.length c2, .slice a3 C1.length c3] 29)) (((w.alloc (.cells #[.int .i64 p0, .slice a0 st0.length c0] 26)).alloc (.cells #[.slice a1 A1.length c1, .slice a2 B1.length c2, .slice a3 C1.length c3] 29)).alloc (.cells #[.slice a1 A1.length c1, .slice a2 B1.length c2, .slice a3 C1.length c3] 29)) := bwT
  have hx0 := hx0.below hb1; have hA := hA.below hb1; have hB := hB.below hb1; have hC := hC.below hb1; have d0 := kept hb1 d0; have d1 := kept hb1 d1; have e0 := kept hb1 e0; have e1 := kept hb1 e1; have e2 := kept hb1 e2
  have l0 : (((w.alloc (.cells #[.int .i64 p0, .slice a0 st0.length c0] 26)).alloc (.cells #[.slice a1 A1.length c1, .slice a2 B1.length c2, .slice a3 C1.length c3] 29)).alloc (.cells #[.slice a1 A1.length c1, .slice a2 B1.length c2, .slice a3 C1.length c3] 29)).cell? ⟨w.heap.size + 1 + 1, 0, none⟩ = some (.slice a1 A1.length c1) := by simp [go_sem]
  have l1 : (((w.alloc (.cells #[.int .i64 p0, .slice a0 st0.length c0] 26)).alloc (.cells #[.slice a1 A1.length c1, .slice a2 B1.length c2, .slice a3 C1.length c3] 29)).alloc (.cells #[.slice a1 A1.length c1, .slice a2 B1.length c2, .slice a3 C1.length c3] 29)).cell? ⟨w.heap.size + 1 + 1, 1, none⟩ = some (.slice a2 B1.length c2) := by simp [go_sem]
  have l2 : (((w.alloc (.cells #[.int .i64 p0, .slice a0 st0.length c0] 26)).alloc (.cells #[.slice a1 A1.length c1, .slice a2 B1.length c2, .slice a3 C1.length c3] 29)).alloc (.cells #[.slice a1 A1.length c1, .slice a2 B1.length c2, .slice a3 C1.length c3] 29)).cell? ⟨w.heap.size + 1 + 1, 2, none⟩ = some (.slice a3 C1.length c3) := by simp [go_sem]
  go_wp2_with fail
  refine (hchk _ _ _ hx0 l0 l1 l2 hA hB hC).mono ?_; rintro e w2 ⟨rfl, hb2⟩
  have hx0 := hx0.below hb2; have hA := hA.below hb2; have hB := hB.below hb2; have hC := hC.below hb2; have d0 := kept hb2 d0; have d1 := kept hb2 d1; have e0 := kept hb2 e0; have e1 := kept hb2 e1; have e2 := kept hb2 e2; have l0 := kept hb2 l0; have l1 := kept hb2 l1; have l2 := kept hb2 l2
  go_wp2_with fail
  go_ret2
  exact ⟨rfl, bwT⟩
 obtain ⟨hd, mA, mB, mC⟩ := chkT_ok h0
 rw [show RIsLocalTriple0 p0 st0 A1 B1 C1 = locB p0 st0 A1 B1 C1 from if_pos h0, show RIsLocalTriple1 p0 st0 A1 B1 C1 = 0 from h0]
 simp only [h0] at hchk
 clear h0
 have hglob := fun W h1 h2 => sloc_c (w := W) (p := p0) (s := .slice a0 st0.length c0) (x := .agg #[.slice a1 A1.length c1, .slice a2 B1.length c2, .slice a3 C1.length c3]) hd h1 h2 mA mB mC
 obtain ⟨q, hq⟩ : ∃ q, q = locB p0 st0 A1 B1 C1 := ⟨_, rfl⟩
 simp only [<- hq] at hglob ⊢
 clear hq
 go_enter Tryz.func9, Tryz.ntmps9
 have hb0 : Below w.heap.size w ((w.alloc (.cells #[.int .i64 p0, .slice a0 st0.length c0] 26)).alloc (.cells #[.slice a1 A1.length c1, .slice a2 B1.length c2, .slice a3 C1.length c3] 29)) := bwT
 have hx0 := hx0.below hb0; have hx1 := hx1.below hb0; have hA := hA.below hb0; have hB := hB.below hb0; have hC := hC.below hb0
 have d0 : ((w.alloc (.cells #[.int .i64 p0, .slice a0 st0.length c0] 26)).alloc (.cells #[.slice a1 A1.length c1, .slice a2 B1.length c2, .slice a3 C1.length c3] 29)).cell? ⟨w.heap.size, 0, none⟩ = some (.int .i64 p0) := by simp [go_sem]
 have d1 : ((w.alloc (.cells #[.int .i64 p0, .slice a0 st0.length c0] 26)).alloc (.cells #[.slice a1 A1.length c1, .slice a2 B1.length c2, .slice a3 C1.length c3] 29)).cell? ⟨w.heap.size, 1, none⟩ = some (.slice a0 st0.length c0) := by simp [go_sem]
 have e0 : ((w.alloc (.cells #[.int .i64 p0, .slice a0 st0.length c0] 26)).alloc (.cells #[.slice a1 A1.length c1, .slice a2 B1.length c2, .slice a3 C1.length c3] 29)).cell? ⟨w.heap.size + 1, 0, none⟩ = some (.slice a1 A1.length c1) := by simp [go_sem]
 have e1 : ((w.alloc (.cells #[.int .i64 p0, .slice a0 st0.length c0] 26)).alloc (.cells #[.slice a1 A1.length c1, .slice a2 B1.length c2, .slice a3 C1.length c3] 29)).cell? ⟨w.heap.size + 1, 1, none⟩ = some (.slice a2 B1.length c2) := by simp [go_sem]
 have e2 : ((w.alloc (.cells #[.int .i64 p0, .slice a0 st0.length c0] 26)).alloc (.cells #[.slice a1 A1.length c1, .slice a2 B1.length c2, .slice a3 C1.length c3] 29)).cell? ⟨w.heap.size + 1, 2, none⟩ = some (.slice a3 C1.length c3) := by simp [go_sem]
 have hb1 : Below ((w.alloc (.cells #[.int .i64 p0, .slice a0 st0.length c0] 26)).alloc (.cells #[.slice a1 A1.length c1, .slice a2 B1.length c2, .slice a3 C1.length c3] 29)).heap.size ((w.alloc (.cells #[.int .i64 p0, .slice a0 st0.length c0] 26)).alloc (.cells #[.slice a1 A1.length c1, .slice a2 B1.length c2, .slice a3 C1.length c3] 29)) (((w.alloc (.cells #[.int .i64 p0, .slice a0 st0.length c0] 26)).alloc (.cells #[.slice a1 A1.length c1, .slice a2 B1.length c2, .slice a3 C1.length c3] 29)).alloc (.cells #[.slice a1 A1.length c1, .slice a2 B1.length c2, .slice a3 C1.length c3] 29)) := bwT
 have hx0 := hx0.below hb1; have hx1 := hx1.below hb1; have hA := hA.below hb1; have hB := hB.below hb1; have hC := hC.below hb1; have d0 := kept hb1 d0; have d1 := kept hb1 d1; have e0 := kept hb1 e0; have e1 := kept hb1 e1; have e2 := kept hb1 e2
 have l0 : (((w.alloc (.cells #[.int .i64 p0, .slice a0 st0.length c0] 26)).alloc (.cells #[.slice a1 A1.length c1, .slice a2 B1.length c2, .slice a3 C1.length c3] 29)).alloc (.cells #[.slice a1 A1.length c1, .slice a2 B1.length c2, .slice a3 C1.length c3] 29)).cell? ⟨w.heap.size + 1 + 1, 0, none⟩ = some (.slice a1 A1.length c1) := by simp [go_sem]
 have l1 : (((w.alloc (.cells #[.int .i64 p0, .slice a0 st0.length c0] 26)).alloc (.cells #[.slice a1 A1.length c1, .slice a2 B1.length c2, .slice a3 C1.length c3] 29)).alloc (.cells #[.slice a1 A1.length c1, .slice a2 B1.length c2, .slice a3 C1.length c3] 29)).cell? ⟨w.heap.size + 1 + 1, 1, none⟩ = some (.slice a2 B1.length c2) := by simp [go_sem]
 have l2 : (((w.alloc (.cells #[.int .i64 p0, .slice a0 st0.length c0] 26)).alloc (.cells #[.slice a1 A1.length c1, .slice a2 B1.length c2, .slice a3 C1.length c3] 29)).alloc (.cells #[.slice a1 A1.length c1, .slice a2 B1.length c2, .slice a3 C1.length c3] 29)).cell? ⟨w.heap.size + 1 + 1, 2, none⟩ = some (.slice a3 C1.length c3) := by simp [go_sem]
 go_wp2_with fail
 refine (hchk _ _ _ hx0 l0 l1 l2 hA hB hC).mono ?_; rintro e w2 ⟨rfl, hb2⟩
 have hx0 := hx0.below hb2; have hx1 := hx1.below hb2; have hA := hA.below hb2; have hB := hB.below hb2; have hC := hC.below hb2; have d0 := kept hb2 d0; have d1 := kept hb2 d1; have e0 := kept hb2 e0; have e1 := kept hb2 e1; have e2 := kept hb2 e2; have l0 := kept hb2 l0; have l1 := kept hb2 l1; have l2 := kept hb2 l2
 go_wp2_with fail
 refine (hglob _ hx0 hx1).mono ?_; rintro e w3 ⟨rfl, hb3⟩
 have hx0 := hx0.below hb3; have hx1 := hx1.below hb3; have hA := hA.below hb3; have hB := hB.below hb3; have hC := hC.below hb3; have d0 := kept hb3 d0; have d1 := kept hb3 d1; have e0 := kept hb3 e0; have e1 := kept hb3 e1; have e2 := kept hb3 e2; have l0 := kept hb3 l0; have l1 := kept hb3 l1; have l2 := kept hb3 l2
 go_wp2_with fail
 go_ret2
 exact ⟨rfl, bwT⟩
end Go.Proofs.YteaaepbnoiecoaaGreat
