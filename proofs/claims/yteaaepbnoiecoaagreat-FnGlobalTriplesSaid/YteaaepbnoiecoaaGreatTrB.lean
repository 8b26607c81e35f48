import Derived.Test.YteaaepbnoiecoaaGreatTrA
namespace Go.Proofs.YteaaepbnoiecoaaGreat
open Go.RowKit
theorem ismatrix_c {p : Int} {s m : Value} {st : List Int} {L : List (List Int)} {w : World} (hd : Dok p st) (hs : El w s st) (hr : Re w m L) (hL : ∀ r ∈ L, r.length <= 1048576) (hn : L.length <= 1048576) :
  Calls Tryz.prog 80 #[.agg #[.int .i64 p, s], m] w fun e w' => e = .returned (.bool (matB p (sz st.length) L)) /\ Below w.heap.size w w' := by
 have hp1 := hd.hp.lo; have hp2 := hd.hp.hi; have hl3 := hd.hl; have hsz := sz_le hd
 rw [<- matP_eq (n := sz st.length) (by omega) (by omega)]
 obtain ⟨a0, c0, rfl, _⟩ := id hs.op
 obtain ⟨ar, cr, rfl, hr1, hr2, hR⟩ := id hr
 have hcon := fun W h => fismatrix_c (w := W) (p := p) (by omega) (by omega) h hL hn (m := .slice ar L.length cr)
 have hszc := fun W => size_c (w := W) (p := p) (a := a0) (n := st.length) (c := c0) (by omega)
 obtain ⟨n, hn_⟩ : ∃ n, n = sz st.length := ⟨_, rfl⟩
 simp only [<- hn_] at hszc hsz ⊢
 obtain ⟨m0, hm0⟩ : ∃ m, m = (L.getD 0 []).length := ⟨_, rfl⟩
 have hdef : matP p n L = ((decide (0 < L.length) && tabB p L) && decide (L.length = n) && decide (m0 = n)) := by rw [hm0]; rfl
 have hq0 : (decide (0 < L.length) && tabB p L) = true -> 0 < L.length := fun h => by
  rw [Bool.and_eq_true, decide_eq_true_eq] at h; exact h.1
 have hfirst : 0 < L.length -> ∃ a c b off, ar = some ⟨b, off, none⟩ /\ w.cell? ⟨b, off, none⟩ = some (.slice a m0 c) := fun h => by
  obtain ⟨b, off, hb, hcell⟩ := hR.resolve_left (fun e => by rw [e] at h; simp at h)
  obtain ⟨u, h1, h2⟩ := hcell 0 h
  obtain ⟨a, c, rfl, _⟩ := h2.op
  refine ⟨a, c, b, off, hb, ?_⟩
  rw [hm0, show L.getD 0 [] = L[0] by simp [List.getD_eq_getElem?_getD, h]]
  exact h1
 obtain ⟨q, hq⟩ : ∃ q, q = (decide (0 < L.length) && tabB p L) := ⟨_, rfl⟩
 simp only [<- hq] at hcon hdef hq0
 have HF := Lib.hid hfirst; have HN := Lib.hid hn_
 clear hq hm0 hfirst hn_ hR
 cases q with
 | false =>
  have E := Lib.hid (show matP p n L = false by rw [hdef]; rfl); clear hdef hq0
  go_enter Tryz.func80, Tryz.ntmps80
  have hb0 : Below w.heap.size w (w.alloc (.cells #[.int .i64 p, .slice a0 st.length c0] 26)) := bwT
  have hs := hs.below hb0; have hr := hr.below hb0
  have d0 : (w.alloc (.cells #[.int .i64 p, .slice a0 st.length c0] 26)).cell? ⟨w.heap.size, 0, none⟩ = some (.int .i64 p) := by simp [go_sem]
  have d1 : (w.alloc (.cells #[.int .i64 p, .slice a0 st.length c0] 26)).cell? ⟨w.heap.size, 1, none⟩ = some (.slice a0 st.length c0) := by simp [go_sem]
  go_wp2_with fail
  refine region_flow [(true, [(0, 1), (2, 0), (1, 3)]), (true, [(3, 3)]), (true, [(4, 0), (5, 0), (6, 0), (7, 1), (8, 3)]), (true, [(9, 0), (10, 0), (11, 0), (12, 0), (13, 0), (14, 1), (15, 0), (16, 1), (17, 3)]), (false, [(18, 0), (19, 0), (20, 0)])] (by kernel_rfl) ?_
  refine norm_K fun K hK => ?_
  change wpList _ _ _ [_, _, _] _ _
  have hb1 : Below (w.alloc (.cells #[.int .i64 p, .slice a0 st.length c0] 26)).heap.size (w.alloc (.cells #[.int .i64 p, .slice a0 st.length c0] 26)) (w.alloc (.cells #[.int .i64 p, .slice a0 st.length c0] 26)).drew := bwT
  have hs := hs.below hb1; have hr := hr.below hb1; have d0 := kept hb1 d0; have d1 := kept hb1 d1
  generalize (w.alloc (.cells #[.int .i64 p, .slice a0 st.length c0] 26)).drew = wq at *
  go_wp2_with fail
  refine (dfield_c).mono ?_; rintro e w2 ⟨rfl, hb2⟩
  have hs := hs.below hb2; have hr := hr.below hb2; have d0 := kept hb2 d0; have d1 := kept hb2 d1
  go_wp2_with fail
  have hz0 : Below wq.heap.size wq w2 := bwT
  first | (refine hK _ _ ⟨hz0, ?_⟩; clear hK K) | refine ⟨hz0, ?_⟩
  clear hz0
  refine norm_K fun K hK => ?_
  change wpList _ _ _ [_] _ _
  go_wp2_with fail
  refine (hcon _ hr).mono ?_; rintro e w3 ⟨rfl, rfl⟩
  go_wp2_with fail
  have hz1 : Below w2.heap.size w2 w2 := bwT
  first | (refine hK _ _ ⟨hz1, ?_⟩; clear hK K) | refine ⟨hz1, ?_⟩
  clear hz1
  refine norm_K fun K hK => ?_
  change wpList _ _ _ [_, _, _, _, _] _ _
  go_wp2_with fail
  have hz2 : Below w2.heap.size w2 w2 := bwT
  first | (refine hK _ _ ⟨hz2, ?_⟩; clear hK K) | refine ⟨hz2, ?_⟩
  clear hz2
  refine norm_K fun K hK => ?_
  change wpList _ _ _ [_, _, _, _, _, _, _, _, _] _ _
  go_wp2_with fail
  have hz3 : Below w2.heap.size w2 w2 := bwT
  first | (refine hK _ _ ⟨hz3, ?_⟩; clear hK K) | refine ⟨hz3, ?_⟩
  clear hz3
  refine norm_K fun K hK => ?_
  change wpList _ _ _ [_, _, _] _ _
  go_wp2_with fail
  first | (refine hK _ _ ⟨rfl, ?_⟩; clear hK K) | refine ⟨rfl, ?_⟩
  go_wp2_with fail
  go_ret
  exact ⟨by rw [E.out]; rfl, bwT⟩
 | true =>
  have h0 := hq0 rfl; clear hq0
  obtain ⟨a3, c3, b, off, rfl, hc⟩ := HF.out h0
  rw [Bool.true_and] at hdef
  by_cases e1 : L.length = n
  case neg =>
   have E := Lib.hid (show matP p n L = false by rw [hdef, decide_eq_false e1]; rfl); clear hdef
   have hcmp : ((L.length : Int) == ((n : Nat) : Int)) = false := by rw [beq_eq_false_iff_ne]; omega
   go_enter Tryz.func80, Tryz.ntmps80
   have hb0 : Below w.heap.size w (w.alloc (.cells #[.int .i64 p, .slice a0 st.length c0] 26)) := bwT
   have hs := hs.below hb0; have hr := hr.below hb0
   have d0 : (w.alloc (.cells #[.int .i64 p, .slice a0 st.length c0] 26)).cell? ⟨w.heap.size, 0, none⟩ = some (.int .i64 p) := by simp [go_sem]
   have d1 : (w.alloc (.cells #[.int .i64 p, .slice a0 st.length c0] 26)).cell? ⟨w.heap.size, 1, none⟩ = some (.slice a0 st.length c0) := by simp [go_sem]
   go_wp2_with fail
   refine region_flow [(true, [(0, 1), (2, 0), (1, 3)]), (true, [(3, 3)]), (true, [(4, 0), (5, 0), (6, 0), (7, 1), (8, 3)]), (true, [(9, 0), (10, 0), (11, 0), (12, 0), (13, 0), (14, 1), (15, 0), (16, 1), (17, 3)]), (false, [(18, 0), (19, 0), (20, 0)])] (by kernel_rfl) ?_
   refine norm_K fun K hK => ?_
   change wpList _ _ _ [_, _, _] _ _
   have hb1 : Below (w.alloc (.cells #[.int .i64 p, .slice a0 st.length c0] 26)).heap.size (w.alloc (.cells #[.int .i64 p, .slice a0 st.length c0] 26)) (w.alloc (.cells #[.int .i64 p, .slice a0 st.length c0] 26)).drew := bwT
   have hs := hs.below hb1; have hr := hr.below hb1; have d0 := kept hb1 d0; have d1 := kept hb1 d1
   generalize (w.alloc (.cells #[.int .i64 p, .slice a0 st.length c0] 26)).drew = wq at *
   go_wp2_with fail
   refine (dfield_c).mono ?_; rintro e w2 ⟨rfl, hb2⟩
   have hs := hs.below hb2; have hr := hr.below hb2; have d0 := kept hb2 d0; have d1 := kept hb2 d1
   go_wp2_with fail
   have hz0 : Below wq.heap.size wq w2 := bwT
   first | (refine hK _ _ ⟨hz0, ?_⟩; clear hK K) | refine ⟨hz0, ?_⟩
   clear hz0
   refine norm_K fun K hK => ?_
   change wpList _ _ _ [_] _ _
   go_wp2_with fail
   refine (hcon _ hr).mono ?_; rintro e w3 ⟨rfl, rfl⟩
   go_wp2_with fail
   have hz1 : Below w2.heap.size w2 w2 := bwT
   first | (refine hK _ _ ⟨hz1, ?_⟩; clear hK K) | refine ⟨hz1, ?_⟩
   clear hz1
   refine norm_K fun K hK => ?_
   change wpList _ _ _ [_, _, _, _, _] _ _
   go_wp2_with fail
   refine (hszc _).mono ?_; rintro e w4 ⟨rfl, hb4⟩
   have hs := hs.below hb4; have hr := hr.below hb4; have d0 := kept hb4 d0; have d1 := kept hb4 d1
   go_wp2_with fail
   have hz2 : Below w2.heap.size w2 w4 := bwT
   first | (refine hK _ _ ⟨hz2, ?_⟩; clear hK K) | refine ⟨hz2, ?_⟩
   clear hz2
   refine norm_K fun K hK => ?_
   change wpList _ _ _ [_, _, _, _, _, _, _, _, _] _ _
   go_wp2_with fail
   have hz3 : Below w4.heap.size w4 w4 := bwT
   first | (refine hK _ _ ⟨hz3, ?_⟩; clear hK K) | refine ⟨hz3, ?_⟩
   clear hz3
   refine norm_K fun K hK => ?_
   change wpList _ _ _ [_, _, _] _ _
   go_wp2_with fail
   first | (refine hK _ _ ⟨rfl, ?_⟩; clear hK K) | refine ⟨rfl, ?_⟩
   go_wp2_with fail
   go_ret
   exact ⟨by rw [E.out]; rfl, bwT⟩
  rw [decide_eq_true e1, Bool.true_and] at hdef
  have hcmp : ((L.length : Int) == ((n : Nat) : Int)) = true := by rw [beq_iff_eq]; omega
  have hcm2 : ((m0 : Int) == ((n : Nat) : Int)) = decide (m0 = n) := by rw [Bool.eq_iff_iff, beq_iff_eq, decide_eq_true_eq]; omega
  obtain ⟨z, hz⟩ : ∃ z, z = decide (m0 = n) := ⟨_, rfl⟩
  rw [<- hz] at hdef hcm2
  have E := Lib.hid hdef; clear hdef hz e1
  go_enter Tryz.func80, Tryz.ntmps80
  have hb0 : Below w.heap.size w (w.alloc (.cells #[.int .i64 p, .slice a0 st.length c0] 26)) := bwT
  have hs := hs.below hb0; have hr := hr.below hb0; have hc := kept hb0 hc
  have d0 : (w.alloc (.cells #[.int .i64 p, .slice a0 st.length c0] 26)).cell? ⟨w.heap.size, 0, none⟩ = some (.int .i64 p) := by simp [go_sem]
  have d1 : (w.alloc (.cells #[.int .i64 p, .slice a0 st.length c0] 26)).cell? ⟨w.heap.size, 1, none⟩ = some (.slice a0 st.length c0) := by simp [go_sem]
  go_wp2_with fail
  refine region_flow [(true, [(0, 1), (2, 0), (1, 3)]), (true, [(3, 3)]), (true, [(4, 0), (5, 0), (6, 0), (7, 1), (8, 3)]), (true, [(9, 0), (10, 0), (11, 0), (12, 0), (13, 0), (14, 1), (15, 0), (16, 1), (17, 3)]), (false, [(18, 0), (19, 0), (20, 0)])] (by kernel_rfl) ?_
  refine norm_K fun K hK => ?_
  change wpList _ _ _ [_, _, _] _ _
  have hb1 : Below (w.alloc (.cells #[.int .i64 p, .slice a0 st.length c0] 26)).heap.size (w.alloc (.cells #[.int .i64 p, .slice a0 st.length c0] 26)) (w.alloc (.cells #[.int .i64 p, .slice a0 st.length c0] 26)).drew := bwT
  have hs := hs.below hb1; have hr := hr.below hb1; have hc := kept hb1 hc; have d0 := kept hb1 d0; have d1 := kept hb1 d1
  generalize (w.alloc (.cells #[.int .i64 p, .slice a0 st.length c0] 26)).drew = wq at *
  go_wp2_with fail
  refine (dfield_c).mono ?_; rintro e w2 ⟨rfl, hb2⟩
  have hs := hs.below hb2; have hr := hr.below hb2; have hc := kept hb2 hc; have d0 := kept hb2 d0; have d1 := kept hb2 d1
  go_wp2_with fail
  have hz0 : Below wq.heap.size wq w2 := bwT
  first | (refine hK _ _ ⟨hz0, ?_⟩; clear hK K) | refine ⟨hz0, ?_⟩
  clear hz0
  refine norm_K fun K hK => ?_
  change wpList _ _ _ [_] _ _
  go_wp2_with fail
  refine (hcon _ hr).mono ?_; rintro e w3 ⟨rfl, rfl⟩
  go_wp2_with fail
  have hz1 : Below w2.heap.size w2 w2 := bwT
  first | (refine hK _ _ ⟨hz1, ?_⟩; clear hK K) | refine ⟨hz1, ?_⟩
  clear hz1
  refine norm_K fun K hK => ?_
  change wpList _ _ _ [_, _, _, _, _] _ _
  go_wp2_with fail
  refine (hszc _).mono ?_; rintro e w4 ⟨rfl, hb4⟩
  have hs := hs.below hb4; have hr := hr.below hb4; have hc := kept hb4 hc; have d0 := kept hb4 d0; have d1 := kept hb4 d1
  go_wp2_with fail
  have hz2 : Below w2.heap.size w2 w4 := bwT
  first | (refine hK _ _ ⟨hz2, ?_⟩; clear hK K) | refine ⟨hz2, ?_⟩
  clear hz2
  refine norm_K fun K hK => ?_
  change wpList _ _ _ [_, _, _, _, _, _, _, _, _] _ _
  go_wp2_with fail
  refine (hszc _).mono ?_; rintro e w5 ⟨rfl, hb5⟩
  have hs := hs.below hb5; have hr := hr.below hb5; have hc := kept hb5 hc; have d0 := kept hb5 d0; have d1 := kept hb5 d1
  go_wp2_with fail
  have hz3 : Below w4.heap.size w4 w5 := bwT
  first | (refine hK _ _ ⟨hz3, ?_⟩; clear hK K) | refine ⟨hz3, ?_⟩
  clear hz3
  refine norm_K fun K hK => ?_
  change wpList _ _ _ [_, _, _] _ _
  go_wp2_with fail
  first | (refine hK _ _ ⟨rfl, ?_⟩; clear hK K) | refine ⟨rfl, ?_⟩
  go_wp2_with fail
  go_ret
  exact ⟨by rw [E.out]; simp, bwT⟩
theorem xor_bits : ∀ k : Nat, k < 8 -> ∀ j : Nat, j < 8 -> bits BinOp.xor IntKind.i64 (k : Int) (j : Int) = ((k ^^^ j : Nat) : Int) := by decide +kernel
def basL (p : Int) (st : List Int) : List (List Int) := (List.range (sz st.length)).map fun i => (List.range (sz st.length)).map fun k => basF p st i k
set_option maxHeartbeats 2000000 in
theorem sbas_c {p : Int} {s : Value} {st : List Int} {w : World} (hd : Dok p st) (hs : El w s st) :
  Calls Tryz.prog 61 #[.agg #[.int .i64 p, s]] w fun e w' => ∃ v, e = .returned v /\ Re w' v (basL p st) /\ Below w.heap.size w w' := by
 have hp1 := hd.hp.lo; have hp2 := hd.hp.hi; have hl3 := hd.hl; have hsz := sz_le hd
 obtain ⟨a0, c0, rfl, _⟩ := id hs.op
 have hszc := fun W => ssize_c (w := W) (p := p) (a := a0) (n := st.length) (c := c0) (by omega)
 have hone := fun W s i (h : El W s st) (hi : i < sz st.length) => sone_c (w := W) (p := p) hd h hi
 have hxor := fun (i j : Nat) (hi : i < sz st.length) (hj : j < sz st.length) => xor_lt (st := st) hi hj
 have hev := fun i => Ev.unit1 (p := p) (n := sz st.length) (i := i) (by omega)
 have hev2 := fun i j => mulL_ev (p := p) (st := st) (by omega) (hev i) (hev j)
 obtain ⟨F, hF⟩ : ∃ F, F = fun i k => basF p st i k := ⟨_, rfl⟩
 have hFd : ∀ i k, (mulL p st (oneL (sz st.length) i) (oneL (sz st.length) k)).getD (i ^^^ k) 0 = F i k := fun i k => by rw [hF]; rfl
 have hBd : basL p st = (List.range (sz st.length)).map fun i => (List.range (sz st.length)).map fun k => F i k := by rw [hF]; rfl
 rw [hBd]
 clear hBd hF
 obtain ⟨n, hn⟩ : ∃ n, n = sz st.length := ⟨_, rfl⟩
 have hev' := hev; have hev2' := hev2
 simp only [<- hn] at hszc hsz hone hxor hFd hev2 ⊢
 have HN := Lib.hid hn; have HFD := Lib.hid hFd; have HX := Lib.hid hxor; have HE := Lib.hid hev'; have HE2 := Lib.hid hev2
 clear hn hFd hxor hev hev2 hev' hev2'
 have hbW : Below w.heap.size w (w.alloc (.cells #[.int .i64 p, .slice a0 st.length c0] 26)) := bwT
 have hs := hs.below hbW
 have d0 : (w.alloc (.cells #[.int .i64 p, .slice a0 st.length c0] 26)).cell? ⟨w.heap.size, 0, none⟩ = some (.int .i64 p) := by simp [go_sem]
 have d1 : (w.alloc (.cells #[.int .i64 p, .slice a0 st.length c0] 26)).cell? ⟨w.heap.size, 1, none⟩ = some (.slice a0 st.length c0) := by simp [go_sem]
 obtain ⟨W, hWe⟩ : ∃ W, W = w.alloc (.cells #[.int .i64 p, .slice a0 st.length c0] 26) := ⟨_, rfl⟩
 have hz0 : W.heap.size = w.heap.size + 1 := by rw [hWe]; simp
 have HW := Lib.hid hWe; have HZ0 := Lib.hid hz0
 rw [<- hWe] at hs d0 d1 hbW
 clear hWe hz0
 have hbA : Below W.heap.size W (W.alloc (.cells #[] 24)) := bwT
 have hI0 : OwV (W.alloc (.cells #[] 24)) W.heap.size (.slice (some ⟨W.heap.size, 0, none⟩) 0 0) [] := OwV.new (Nat.le_refl _)
 rw [HZ0.out] at hI0
 go_enter Tryz.func61, Tryz.ntmps61
 go_wp2
 rw [<- HW.out]
 go_loopw [3, 4] (fun o i wr => ∃ (k g cap : Nat) (us : List Value), k <= n /\ i = .int .i64 k /\ o = .slice (some ⟨g, 0, none⟩) us.length cap /\ us.length = k /\ OwV wr W.heap.size (.slice (some ⟨g, 0, none⟩) us.length cap) us /\ RowsF wr W.heap.size us ((List.range k).map fun i => (List.range n).map fun j => F i j) /\ Below W.heap.size W wr)
  (fun _ i _ => n - (intOf i).toNat)
 case atStart => exact ⟨0, w.heap.size + 1, 0, [], Nat.zero_le _, rfl, rfl, rfl, by rw [HZ0.out]; exact hI0, RowsF.nil _ _, hbA⟩
 case round =>
  obtain ⟨k, g, cap, us, hk, rfl, rfl, hul, hI, hR, hbr⟩ := hrel
  have HU := Lib.hid hul; clear hul
  have hs := hs.below hbr; have d0 := kept hbr d0; have d1 := kept hbr d1
  generalize wr = wo at *
  go_wp2_with fail
  refine (hszc _).mono ?_; rintro e w1 ⟨rfl, hb1⟩
  have hs := hs.below hb1; have d0 := kept hb1 d0; have d1 := kept hb1 d1; have hI := hI.below hb1; have hR := hR.below hb1
  have hb2 := bwC hbr hb1
  by_cases hlt : k < n
  ·have HS := Lib.hid hs; have D0 := Lib.hid d0; have D1 := Lib.hid d1; have HI := Lib.hid hI; have HR := Lib.hid hR
   clear hs d0 d1 hI hR
   have hJ0 : OwnI (w1.alloc (.cells #[] 2)) w1.heap.size w1.heap.size 0 0 [] := OwnI.new (Nat.le_refl _)
   have hbB : Below w1.heap.size w1 (w1.alloc (.cells #[] 2)) := bwT
   go_wp2_with fail
   go_loopw [5, 6] (fun o i wr => ∃ (j h cap2 : Nat), j <= n /\ i = .int .i64 j /\ o = .slice (some ⟨h, 0, none⟩) j cap2 /\ OwnI wr w1.heap.size h j cap2 ((List.range j).map fun j => F k j) /\ Below w1.heap.size w1 wr)
    (fun _ i _ => n - (intOf i).toNat)
   case atStart => exact ⟨0, w1.heap.size, 0, Nat.zero_le _, rfl, rfl, hJ0, hbB⟩
   case round =>
    clear hJ0 hbB
    obtain ⟨j, h, cap2, hj, rfl, rfl, hJ, hb5⟩ := hrel
    have hs := HS.out.below hb5; have d0 := kept hb5 D0.out; have d1 := kept hb5 D1.out; have hI := HI.out.below hb5; have hR := HR.out.below hb5
    generalize wr = wp at *
    go_wp2_with fail
    refine (hszc _).mono ?_; rintro e w3 ⟨rfl, hb3⟩
    have hs := hs.below hb3; have d0 := kept hb3 d0; have d1 := kept hb3 d1; have hI := hI.below hb3; have hR := hR.below hb3; have hJ := hJ.below hb3
    have hb6 := bwC hb5 hb3
    by_cases hlt2 : j < n
    ·have hx := HX.out k j hlt hlt2
     have e2 := HE2.out k j
     have hF2 := HFD.out k j
     have hbit := xor_bits k (by omega) j (by omega)
     obtain ⟨x, hx_⟩ : ∃ x, x = k ^^^ j := ⟨_, rfl⟩
     rw [<- hx_] at hx hbit hF2
     clear hx_
     go_wp2_with fail
     go_wp2_with fail
     refine region_flow [(false, [(0, 0), (1, 1), (2, 1), (3, 0), (5, 1), (6, 0), (9, 0), (10, 0), (11, 0), (4, 5)]), (false, [(7, 5)]), (false, [(8, 4), (12, 0), (13, 1), (14, 4), (15, 4), (16, 0)])] (by kernel_rfl) ?_
     refine norm_K fun K hK => ?_
     change wpList _ _ _ [_, _, _, _, _, _, _, _, _, _] _ _
     have hb24 : Below w3.heap.size w3 w3.drew := bwT
     have hs := hs.below hb24; have d0 := kept hb24 d0; have d1 := kept hb24 d1; have hI := hI.below hb24; have hR := hR.below hb24; have hJ := hJ.below hb24
     generalize w3.drew = wq at *
     go_wp2_with fail
     refine (hone _ _ k hs hlt).mono ?_; rintro e w25 ⟨v1, rfl, h1, hb25⟩
     have hs := hs.below hb25; have d0 := kept hb25 d0; have d1 := kept hb25 d1; have hI := hI.below hb25; have hR := hR.below hb25; have hJ := hJ.below hb25
     go_wp2_with fail
     have hz0 : Below wq.heap.size wq w25 := bwT
     first | (refine hK _ _ ⟨hz0, ?_⟩; clear hK K) | refine ⟨hz0, ?_⟩
     clear hz0
     refine norm_K fun K hK => ?_
     change wpList _ _ _ [_] _ _
     go_wp2_with fail
     refine (hone _ _ j hs hlt2).mono ?_; rintro e w26 ⟨v2, rfl, h2, hb26⟩
     have hs := hs.below hb26; have d0 := kept hb26 d0; have d1 := kept hb26 d1; have hI := hI.below hb26; have hR := hR.below hb26; have hJ := hJ.below hb26; have h1 := h1.below hb26
     go_wp2_with fail
     have hz1 : Below wq.heap.size wq w26 := bwT
     first | (refine hK _ _ ⟨hz1, ?_⟩; clear hK K) | refine ⟨hz1, ?_⟩
     clear hz1
     refine norm_K fun K hK => ?_
     change wpList _ _ _ [_, _, _, _, _, _] _ _
     go_wp2_with fail
     refine (stimes_c hd hs h1.el h2.el (by rw [HN.out]; exact HE.out k) (by rw [HN.out]; exact HE.out j)).mono ?_; rintro e w27 ⟨v3, rfl, h3, hb27⟩
     have hs := hs.below hb27; have d0 := kept hb27 d0; have d1 := kept hb27 d1; have hI := hI.below hb27; have hR := hR.below hb27; have hJ := hJ.below hb27; have h1 := h1.below hb27; have h2 := h2.below hb27
     obtain ⟨g3, c3, rfl, h3o⟩ := id h3
     have hxl : x < (mulL p st (oneL n k) (oneL n j)).length := by rw [e2.1]; exact hx
     have hcx := h3o.hold hxl
     rw [hF2] at hcx
     obtain ⟨z, hz⟩ : ∃ z, z = F k j := ⟨_, rfl⟩
     rw [<- hz] at hcx
     have hst : Hid ((List.range (j + 1)).map (fun j => F k j) = (List.range j).map (fun j => F k j) ++ [z]) := Lib.hid (by rw [List.range_succ, List.map_append, hz]; rfl)
     have HXL := Lib.hid hxl; have HE2' := Lib.hid e2
     clear hz hxl e2 hF2
     go_wp2_with (at_builtin; refine app_one rfl _ _ rfl w27 w1.heap.size h j cap2 _ rfl z _ rfl hJ (by have := hb6.size; have := hb24.size; have := hb25.size; have := hb26.size; have := hb27.size; omega) (by omega) ?_; intro g' cap' w' hown' hb' hg' hgg)
     first | (refine hK _ _ ⟨rfl, ?_⟩; clear hK K) | refine ⟨rfl, ?_⟩
     go_wp2_with fail
     go_roundw
     case rel => exact ⟨j + 1, g', cap', by omega, by go_num, rfl, by rw [hst.out]; exact hown', (bwC hb6 (bwC hb24 (bwC hb25 (bwC hb26 hb27)))).trans hb'⟩
     case measure => simp [intOf]; omega
    ·obtain rfl : j = n := by omega
     have hst : Hid ((List.range (k + 1)).map (fun i => (List.range j).map fun j => F i j) = (List.range k).map (fun i => (List.range j).map fun j => F i j) ++ [(List.range j).map fun j => F k j]) := Lib.hid (by rw [List.range_succ, List.map_append]; rfl)
     have hbw : Below W.heap.size W w3 := bwC hb2 hb6
     have hJf := hJ.fr.more (B' := W.heap.size) hb2.size
     have hJl := hJ.len
     obtain ⟨xs, hxs⟩ : ∃ xs, xs = (List.range j).map fun j => F k j := ⟨_, rfl⟩
     rw [<- hxs] at hst hJf hJl
     have HJL := Lib.hid hJl
     clear hxs hJl hJ
     go_wp2_with (at_builtin; refine appr_one rfl _ _ rfl w3 W.heap.size w3.heap.size rfl (.slice (some ⟨g, 0, none⟩) us.length cap) us rfl (.slice (some ⟨h, 0, none⟩) j cap2) 1 rfl rfl hI hbw.size (by have := HU.out; omega) ?_; intro g' cap' w' ho' hb' hg' hge)
     go_roundw
     case rel => exact ⟨k + 1, g', cap', us ++ [.slice (some ⟨h, 0, none⟩) j cap2], by omega, by go_num, by simp, by simp [HU.out], by simpa using ho', by rw [hst.out]; exact (hR.app hI hg').snoc ((show FrI w3 W.heap.size (.slice (some ⟨h, 0, none⟩) j cap2) xs by have := HJL.out; exact hJf).app hI hg'), hbw.trans hb'⟩
     case measure => simp [intOf]; omega
  ·obtain rfl : k = n := by omega
   go_wp2_with fail
   go_ret
   exact ⟨_, rfl, by have := hR.re hI; rw [HU.out] at this ⊢; exact this, bwC hbW hb2⟩
end Go.Proofs.YteaaepbnoiecoaaGreat
