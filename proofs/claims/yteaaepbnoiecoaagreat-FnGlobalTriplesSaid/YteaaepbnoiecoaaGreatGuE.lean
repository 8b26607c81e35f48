import Derived.Test.YteaaepbnoiecoaaGreatJaj
import Derived.Test.YteaaepbnoiecoaaGreatHeJ
namespace Go.Proofs.YteaaepbnoiecoaaGreat
open Go.RowKit
structure Dok4 (p : Int) (st : List Int) : Prop where
 hp : IsP p
 hl : st.length <= 4
 hs : ∀ s ∈ st, 1 <= s /\ s <= p - 1
theorem Dok4.of {p : Int} {st : List Int} (h : isD p st = true) : Dok4 p st := by
 obtain ⟨h1, h2, h3⟩ := isD_iff.1 h
 exact ⟨h1, h2, h3⟩
theorem Dok.four {p : Int} {st : List Int} (h : Dok p st) : Dok4 p st := ⟨h.hp, by have := h.hl; omega, h.hs⟩
theorem sz_le4 {p : Int} {st : List Int} (h : Dok4 p st) : 1 <= sz st.length /\ sz st.length <= 16 :=
 ⟨Nat.pow_pos (by decide), Nat.le_trans (Nat.pow_le_pow_right (by decide) h.hl) (by decide)⟩
theorem sone4_c {p : Int} {s : Value} {st : List Int} {i : Nat} {w : World} (hd : Dok4 p st) (hs : El w s st) (hi : i < sz st.length) :
  Calls Tryz.prog 75 #[.agg #[.int .i64 p, s], .int .i64 i] w fun e w' => ∃ v, e = .returned v /\ FrI w' w.heap.size v (oneL (sz st.length) i) /\ Below w.heap.size w w' := by
 have hsz := sz_le4 hd
 have hl3 := hd.hl
 obtain ⟨a, c, rfl, _⟩ := id hs.op
 obtain ⟨n, hn⟩ : ∃ n, n = sz st.length := ⟨_, rfl⟩
 have hsc := fun W => ssize_c (w := W) (p := p) (a := a) (n := st.length) (c := c) (by omega)
 rw [<- hn] at hi hsz ⊢
 simp only [<- hn] at hsc
 clear hn
 have hmk := fun W => run_make_row' (P := Tryz.prog) 24 2 (.int .i64 0) 8 Tryz.underlying24 infoI rfl .i64 .i64 n (by omega) (by omega) W
 go_enter Tryz.func75, Tryz.ntmps75
 have hb0 : Below w.heap.size w (w.alloc (.cells #[.int .i64 p, .slice a st.length c] 26)) := bwT
 have d0 : (w.alloc (.cells #[.int .i64 p, .slice a st.length c] 26)).cell? ⟨w.heap.size, 0, none⟩ = some (.int .i64 p) := by simp [go_sem]
 have d1 : (w.alloc (.cells #[.int .i64 p, .slice a st.length c] 26)).cell? ⟨w.heap.size, 1, none⟩ = some (.slice a st.length c) := by simp [go_sem]
 go_wp2_with fail
 refine (hsc _).mono ?_; rintro e w1 ⟨rfl, hb1⟩
 have d0 := kept hb1 d0; have d1 := kept hb1 d1
 have hnew := made_own (W := w1) (n := n) (by omega)
 have hold := hnew.hold (i := i) hi
 have hfree := hnew.free i
 obtain ⟨q, hq⟩ : ∃ q, q = (List.replicate n (0 : Int)).getD i 0 := ⟨_, rfl⟩
 rw [<- hq] at hold; clear hq hnew
 have hrow := (made_set (W := w1) (n := n) (k := i) 1 (by omega)).fr
 go_wp2_with fail
 go_ret
 exact ⟨_, rfl, hrow.more (below_le bwT), bwT⟩
theorem sdiag4_c {p : Int} {s : Value} {st : List Int} {w : World} (hd : Dok4 p st) (hs : El w s st) :
  Calls Tryz.prog 84 #[.agg #[.int .i64 p, s]] w fun e w' => ∃ v, e = .returned v /\ FrI w' w.heap.size v (diagF p st) /\ Below w.heap.size w w' := by
 have hp1 := hd.hp.lo
 have hp2 := hd.hp.hi
 have hl3 := hd.hl
 obtain ⟨a, c, rfl, _, _, hs'⟩ := id hs.op
 rcases hs' with rfl | ⟨b, off, rfl, hA⟩
 ·rw [show diagF p [] = [1] from rfl]
  go_enter Tryz.func84, Tryz.ntmps84
  go_wp2
  refine wp_loop_rounds 1 ?_; rw [rounds_succ]
  go_wp2_with fail
  go_ret
  have ho := OwnI.lit (w := w.alloc (.cells #[.int .i64 p, .slice a ([] : List Int).length c] 26)) (B := w.heap.size) (by simp) [1] (by simp)
  exact ⟨_, rfl, by simpa using ho.fr, bwT⟩
 have hW : Below w.heap.size w (w.alloc (.cells #[.int .i64 p, .slice (some ⟨b, off, none⟩) st.length c] 26)) := bwT
 have hA := hA.below hW
 have d0 : (w.alloc (.cells #[.int .i64 p, .slice (some ⟨b, off, none⟩) st.length c] 26)).cell? ⟨w.heap.size, 0, none⟩ = some (.int .i64 p) := by simp [go_sem]
 have d1 : (w.alloc (.cells #[.int .i64 p, .slice (some ⟨b, off, none⟩) st.length c] 26)).cell? ⟨w.heap.size, 1, none⟩ = some (.slice (some ⟨b, off, none⟩) st.length c) := by simp [go_sem]
 go_enter Tryz.func84, Tryz.ntmps84
 go_wp2
 obtain ⟨W, hWe⟩ : ∃ W, W = w.alloc (.cells #[.int .i64 p, .slice (some ⟨b, off, none⟩) st.length c] 26) := ⟨_, rfl⟩
 have hlen : W.heap.size = w.heap.size + 1 := by rw [hWe]; simp
 rw [<- hWe] at hA d0 d1 hW ⊢
 rw [<- hlen]
 have HW := Lib.hid hWe; have HL := Lib.hid hlen; clear hWe hlen
 go_loopw [3, 4] (fun o i wr => ∃ k g cap : Nat, k <= st.length /\ i = .int .i64 k /\ o = .slice (some ⟨g, 0, none⟩) (sz k) cap /\ OwnI wr W.heap.size g (sz k) cap (diagF p (st.take k)) /\ Below W.heap.size W wr) (fun _ i _ => st.length - (intOf i).toNat)
 case atStart => exact ⟨0, _, _, Nat.zero_le _, rfl, rfl, OwnI.lit (Nat.le_refl _) [1] (by simp), bwT⟩
 case round =>
  obtain ⟨k, g, cap, hk, rfl, rfl, hown, hb⟩ := hrel
  have g0 := kept hb d0
  have g1 := kept hb d1
  by_cases hlt : k < st.length
  ·obtain ⟨z, hz, hc, ht⟩ := (hA.below hb).get hlt
   have hzb := hd.hs z hz
   have hsn := diagF_snoc (p := p) (g := z) (st := st.take k)
   rw [<- ht] at hsn
   have hszk : sz (k + 1) = sz k + sz k := by unfold sz; rw [Nat.pow_succ]; omega
   have hk2 : sz k <= 16 := Nat.le_trans (Nat.pow_le_pow_right (by decide) (show k <= 4 by omega)) (by decide)
   have hk1 : 0 < sz k := Nat.pow_pos (by decide)
   have hbd : Below wr.heap.size wr wr.drew := bwT
   have hown := hown.below hbd
   have hfp := diagF_fp (p := p) (st := st.take k) (by omega)
   have H := Lib.hid (And.intro hsn (And.intro hszk (And.intro ht hown.len))); clear hsn hszk ht
   go_wp2
   refine region_flow [(false, [(0, 0), (1, 0), (2, 1), (3, 0), (4, 1), (5, 0), (6, 1), (7, 0), (8, 0), (9, 1), (10, 0), (11, 0), (12, 4), (13, 4), (14, 0)])] (by kernel_rfl) ?_
   refine norm_K fun K hK => ?_
   change wpList _ _ _ [_, _, _, _, _, _, _, _, _, _, _, _, _, _, _] _ _
   go_wp2_with fail
   refine (sscale_c (by omega) (by omega) (by omega) (by omega) hown.sl (hfp.sm (by omega) (by omega)) (by have := H.out.2.2.2; omega)).mono ?_; rintro e w2 ⟨v, rfl, ⟨g2, cap2, rfl, hv⟩, hb2⟩
   have hown := hown.below hb2
   rw [scaleL_len, H.out.2.2.2] at hv ⊢
   have hbw : Below W.heap.size W w2 := bwC hb (bwC hbd hb2)
   go_wp2_with (at_builtin; refine app_int rfl _ _ rfl w2 W.heap.size g (sz k) cap _ rfl g2 0 (sz k) cap2 _ rfl hown hbw.size hv.at hv.len (by omega) (by omega) ?_; intro g' cap' w' hown' hgg hge)
   have hbw' := blw_grown hbw hgg hown.lt.1
   first | (refine hK _ _ ⟨rfl, ?_⟩; clear hK K) | refine ⟨rfl, ?_⟩
   go_wp2_with fail
   go_roundw
   case rel => exact ⟨k + 1, g', cap', by omega, by go_num, by rw [H.out.2.1], by rw [H.out.2.1, H.out.1]; exact hown', hbw'⟩
   case measure => simp [intOf]; omega
  ·obtain rfl : k = st.length := by omega
   rw [take_all (Nat.le_refl _)] at hown
   go_wp2
   go_ret
   exact ⟨_, rfl, (hown.rebase (by have := hown.lt.1; have := hW.size; omega)).fr, bwC hW hb⟩
theorem snorm4_c {p : Int} {s x : Value} {st xs : List Int} {w : World} (hd : Dok4 p st) (hs : El w s st) (hx : El w x xs) (ex : Ev p (sz st.length) xs) :
  Calls Tryz.prog 47 #[.agg #[.int .i64 p, s], x] w fun e w' => e = .returned (.int .i64 (normL p st xs)) /\ Below w.heap.size w w' := by
 have hp1 := hd.hp.lo
 have hp2 := hd.hp.hi
 have hsz := sz_le4 hd
 rw [norm_diag (by omega) ex, show diagR p st.reverse = diagF p st from rfl]
 have hdl := diagF_len (p := p) (st := st)
 have hdf := diagF_fp (p := p) (st := st) (by omega)
 have hxl := ex.1
 obtain ⟨b, off, c2, rfl, h1, h2, hA⟩ := hx.op1 (by omega)
 obtain ⟨a, c, rfl, _⟩ := id hs.op
 obtain ⟨n, hn⟩ : ∃ n, n = sz st.length := ⟨_, rfl⟩
 rw [<- hn] at hdl hxl hsz
 rw [hxl] at h1 ⊢
 have hev : ∀ i, 0 <= xs.getD i 0 /\ xs.getD i 0 < p := fun i => ex.2.g0 (by omega) i
 have hev2 : ∀ i, 0 <= (diagF p st).getD i 0 /\ (diagF p st).getD i 0 < p := fun i => hdf.g0 (by omega) i
 have HE := Lib.hid (And.intro hev hev2); clear hev hev2
 have HN := Lib.hid (And.intro hn (And.intro hdl hxl)); clear hn hdl hxl hx ex
 go_enter Tryz.func47, Tryz.ntmps47
 have hb0 : Below w.heap.size w (w.alloc (.cells #[.int .i64 p, .slice a st.length c] 26)) := bwT
 have hs := hs.below hb0; have hA := hA.below hb0
 have d0 : (w.alloc (.cells #[.int .i64 p, .slice a st.length c] 26)).cell? ⟨w.heap.size, 0, none⟩ = some (.int .i64 p) := by simp [go_sem]
 have d1 : (w.alloc (.cells #[.int .i64 p, .slice a st.length c] 26)).cell? ⟨w.heap.size, 1, none⟩ = some (.slice a st.length c) := by simp [go_sem]
 go_wp2_with fail
 refine (sdiag4_c hd hs).mono ?_; rintro e w1 ⟨v, rfl, ⟨g, cap, rfl, hv⟩, hb1⟩
 have hA := hA.below hb1
 have d0 := kept hb1 d0
 rw [HN.out.2.1] at hv ⊢
 have hW : Below w.heap.size w w1 := bwT
 go_wp2
 go_loopw [6, 7] (fun o i wr => ∃ k : Nat, k <= n /\ i = .int .i64 k /\ o = .int .i64 (dotD ((diagF p st).take k) (xs.take k) (xs.take k) % p) /\ Below w1.heap.size w1 wr) (fun _ i _ => n - (intOf i).toNat)
 case atStart => exact ⟨0, Nat.zero_le _, rfl, by simp [dotD], Below.refl _ _⟩
 case round =>
  obtain ⟨k, hk, rfl, rfl, hb⟩ := hrel
  have g0 := kept hb d0
  have hAr := hA.below hb
  have hvr := hv.below hb
  have hq1 := mod_fp (p := p) (x := dotD ((diagF p st).take k) (xs.take k) (xs.take k)) (by omega)
  by_cases hlt : k < n
  ·have hc := hAr k (by have := HN.out.2.2; omega)
   have hc2 := hvr.hold hlt
   have b1 := HE.out.1 k
   have b2 := HE.out.2 k
   have hst := dotD_take (d := diagF p st) (x := xs) (k := k) (by have := HN.out.2.1; omega) (by have := HN.out.2.2; omega)
   obtain ⟨u, hu⟩ : ∃ u, u = xs.getD k 0 := ⟨_, rfl⟩
   obtain ⟨z, hz⟩ : ∃ z, z = (diagF p st).getD k 0 := ⟨_, rfl⟩
   rw [<- hu] at hc b1 hst
   rw [<- hz] at hc2 b2 hst
   obtain ⟨q, hq⟩ : ∃ q, q = dotD ((diagF p st).take k) (xs.take k) (xs.take k) := ⟨_, rfl⟩
   rw [<- hq] at hst hq1 ⊢
   have m1 := mulb (k := z) (y := u) (A := 13) (B := 13) (by omega) (by omega) (by omega) (by omega)
   have m2 := mulb (k := z * u) (y := u) (A := 169) (B := 13) (by omega) (by omega) (by omega) (by omega)
   have H := Lib.hid hst; clear hst hu hz hq
   go_wp2
   refine region_flow [(false, [(0, 0), (1, 1), (2, 0), (3, 0), (4, 0), (5, 0), (6, 1), (7, 0), (8, 0), (9, 0), (10, 1), (11, 0), (12, 0), (13, 0), (14, 0), (15, 1), (16, 0), (17, 0), (18, 4), (19, 0)])] (by kernel_rfl) ?_
   refine norm_K fun K hK => ?_
   change wpList _ _ _ [_, _, _, _, _, _, _, _, _, _, _, _, _, _, _, _, _, _, _, _] _ _
   go_wp2_with fail
   refine (smod_c (by omega) (by omega)).mono ?_; rintro e w2 ⟨rfl, rfl⟩
   go_wp2_with fail
   first | (refine hK _ _ ⟨rfl, ?_⟩; clear hK K) | refine ⟨rfl, ?_⟩
   go_wp2_with fail
   go_roundw
   case rel => exact ⟨k + 1, by omega, by go_num, by rw [H.out], hb.drew⟩
   case measure => simp [intOf]; omega
  ·obtain rfl : k = n := by omega
   have e1 : (diagF p st).take k = diagF p st := take_all (by have := HN.out.2.1; omega)
   have e2 : xs.take k = xs := take_all (by have := HN.out.2.2; omega)
   have H := Lib.hid (And.intro e1 e2); clear e1 e2
   go_wp2
   go_ret
   exact ⟨by rw [H.out.1, H.out.2]; rfl, bwC hW hb⟩
def DrU (w : World) (q : Nat) (p : Int) (m : Nat) (e : Ending) (w' : World) : Prop := ∃ (v : Value) (xs : List Int), e = .returned v /\ Ev p m xs /\ ElR w' w.heap.size v xs /\ Src w' q /\ Chg q (q + 1) w w'
theorem Ev.setI {p z : Int} {m i : Nat} {xs : List Int} (h : Ev p m xs) (h0 : 0 <= z) (h1 : z < p) : Ev p m (xs.set i z) :=
 ⟨by rw [List.length_set]; exact h.1, fun x hx => by
  rcases List.mem_or_eq_of_mem_set hx with hx | rfl
  ·exact h.2 x hx
  ·exact ⟨h0, h1⟩⟩
set_option maxHeartbeats 8000000 in
set_option maxRecDepth 100000 in
theorem sdrawun_c {q : Nat} {p : Int} {x : Value} {st : List Int} {w : World} (hd : Dok4 p st) (hs : Src w q) (hE : ElR w (q + 1) x st) :
  Calls Tryz.prog 37 #[.pointer (some ⟨q, 0, none⟩), .agg #[.int .i64 p, x]] w fun e w' => DrU w q p (sz st.length) e w' := by
 have hp2 : 2 <= p := by have := hd.hp.lo; omega
 have h13 := hd.hp.hi
 have hq := hs.lt
 have hsz := sz_le4 hd; have hl4 := hd.hl
 obtain ⟨a, c, rfl, _⟩ := id hE.1.op
 have hone := fun W (h : El W (.slice a st.length c) st) => sone4_c (w := W) (p := p) (i := 0) hd h (by omega)
 have hnor := fun W v xs (h : El W (.slice a st.length c) st) (hv : El W v xs) (ev : Ev p (sz st.length) xs) => snorm4_c (w := W) (p := p) hd h hv ev
 have e1 : Ev p (sz st.length) (oneL (sz st.length) 0) := ⟨oneL_len, oneL_fp hp2⟩
 obtain ⟨n, hn⟩ : ∃ n, n = sz st.length := ⟨_, rfl⟩
 obtain ⟨O, hO⟩ : ∃ O, O = oneL n 0 := ⟨_, rfl⟩
 simp only [<- hn, <- hO] at hone hnor e1 hsz ⊢
 have hOl : O.length = n := e1.1
 have HOL := Lib.hid hOl
 clear hn hO hOl
 go_enter Tryz.func37, Tryz.ntmps37
 have hb0 : Below w.heap.size w (w.alloc (.cells #[.int .i64 p, .slice a st.length c] 26)) := bwT
 have d0 : (w.alloc (.cells #[.int .i64 p, .slice a st.length c] 26)).cell? ⟨w.heap.size, 0, none⟩ = some (.int .i64 p) := by simp [go_sem]
 have d1 : (w.alloc (.cells #[.int .i64 p, .slice a st.length c] 26)).cell? ⟨w.heap.size, 1, none⟩ = some (.slice a st.length c) := by simp [go_sem]
 have hb : Below w.heap.size w (w.alloc (.cells #[.int .i64 p, .slice a st.length c] 26)) := bwT
 have hB : Bd (w.alloc (.cells #[.int .i64 p, .slice a st.length c] 26)) w.heap.size (.int .i64 p) (.slice a st.length c) := heap_alloc_new w _
 have hz0 : (w.alloc (.cells #[.int .i64 p, .slice a st.length c] 26)).heap.size = w.heap.size + 1 := by simp
 have hE0 := hE.1.below hb
 go_wp2_with fail
 refine (hone _ hE0).mono ?_; rintro e w1 ⟨v, rfl, ⟨g, cap, rfl, hv⟩, hb1⟩
 rw [HOL.out] at hv ⊢
 have hB1 := hB.below hb1
 have hs1 : Src w1 q := (hs.below hb).below hb1
 have hc1 : Chg q (q + 1) w w1 := Chg.below (hb.trans (hb1.mono hb.size))
 rw [hz0] at hv
 have hgl := hv.lt
 have hsz1 : w.heap.size + 1 <= w1.heap.size := by have := hb1.size; omega
 clear hb hb0 hB hz0 hE0 d0 d1 hb1 hs
 go_wp2_with fail
 go_loopw [6] (fun i wr => ∃ (k : Nat) (xs : List Int), k <= 40 /\ i = .int .i64 k /\ Ev p n xs /\ OwnI wr (w.heap.size + 1) g n cap xs /\ Src wr q /\ Chg q (q + 1) w wr /\ Bd wr w.heap.size (.int .i64 p) (.slice a st.length c) /\ w1.heap.size <= wr.heap.size) (fun i _ => 40 - (intOf i).toNat)
 case atStart => exact ⟨0, O, by decide, rfl, e1, hv, hs1, hc1, hB1, Nat.le_refl _⟩
 case round =>
  clear hv hs1 hc1 hB1
  obtain ⟨k, xs, hk, rfl, ev, hv, hs, hc, hB, hszr⟩ := hrel
  by_cases hlt : k < 40
  ·have hlti : (k : Int) < 40 := by omega
   generalize wr = wo at *
   have HLT := Lib.hid hlt; clear hlt
   go_wp2_with fail
   clear hlti
   go_loopw [7] (fun i wr => ∃ (j : Nat) (xs : List Int), j <= n /\ i = .int .i64 j /\ Ev p n xs /\ OwnI wr (w.heap.size + 1) g n cap xs /\ Src wr q /\ Chg q (q + 1) w wr /\ Bd wr w.heap.size (.int .i64 p) (.slice a st.length c) /\ w1.heap.size <= wr.heap.size) (fun i _ => n - (intOf i).toNat)
   case atStart => exact ⟨0, xs, Nat.zero_le _, rfl, ev, hv, hs, hc, hB, hszr⟩
   case round =>
    clear hv hs hc hB ev hszr
    obtain ⟨j, ys, hj, rfl, ev, hv, hs, hc, hB, hszr⟩ := hrel
    by_cases hlt2 : j < n
    ·have hlt2i : (j : Int) < n := by omega
     have d0 := hB.c0; have d1 := hB.c1
     go_wp2_with fail
     refine (snext_c hs (by omega) (by omega)).mono ?_; rintro e w4 ⟨z, rfl, hz0, hz1, hs4, hc4, hz4⟩
     have hzp : z < p := by omega
     have hv4 : OwnI w4 (w.heap.size + 1) g n cap ys := ownsRow_chg hc4 hv (fun g' hg' => by cases hg'; right; show q + 1 <= g; have := hgl.1; omega)
     have hB4 := hB.chg hc4 (.inr (by omega))
     have hold := hv4.hold (i := j) hlt2
     have hfree := hv4.free j
     obtain ⟨y, hy⟩ : ∃ y, y = ys.getD j 0 := ⟨_, rfl⟩
     rw [<- hy] at hold; clear hy
     have hc4' := hc.trans hc4
     have hz4' : w1.heap.size <= w4.heap.size := by omega
     have hbs : Below (w.heap.size + 1) w4 (w4.setCell ⟨g, j, none⟩ (.int .i64 z)) := (Below.refl _ _).setCell (p := ⟨g, j, none⟩) hgl.1 _
     clear hz4 hv hB d0 d1 hs hc hc4 hz1
     go_wp2_with fail
     go_roundw
     case rel => exact ⟨j + 1, ys.set j z, by omega, by go_num, ev.setI hz0 hzp, hv4.set z, hs4.bl hbs (by omega), hc4'.bl (hbs.mono (Nat.le_succ _)), hB4.bl hbs (by omega), by simpa using hz4'⟩
     case measure => simp [intOf]; omega
    ·obtain rfl : j = n := by omega
     have hlf : ¬ (j : Int) < j := by omega
     have hEr := (hE.chg hc (Nat.le_refl _)).1
     have d0 := hB.c0; have d1 := hB.c1
     have hvl := hv.fr.el
     obtain ⟨N, hN⟩ : ∃ N, N = normL p st ys := ⟨_, rfl⟩
     have hn2 := hnor _ _ _ hEr hvl ev
     rw [<- hN] at hn2; clear hN hlt2
     go_wp2_with fail
     refine hn2.mono ?_; rintro e w5 ⟨rfl, hb5⟩
     have hv5 := hv.below hb5
     have hs5 := hs.below hb5
     have hc5 := hc.bl (hb5.mono hc.size)
     have hB5 := hB.below hb5
     have hz5 := Nat.le_trans hszr hb5.size
     clear hn2 hEr d0 d1 hvl hv hs hc hB hszr hb5
     by_cases h1 : N = 1
     ·have h1b : (N == 1) = true := by simpa using h1
      clear h1
      go_wp2_with fail
      go_ret
      refine ⟨_, ys, rfl, ev, ?_, hs5, hc5⟩
      exact (hv5.rebase (B' := w.heap.size) (by have := hgl.1; omega)).fr.elr
     ·have h1b : (N == 1) = false := by simpa using h1
      clear h1
      have hlt := HLT.out
      go_wp2_with fail
      go_roundw
      case rel => exact ⟨k + 1, ys, by omega, by go_num, ev, hv5, hs5, hc5, hB5, hz5⟩
      case measure => simp [intOf]; omega
  ·obtain rfl : k = 40 := by omega
   have hEr := (hE.chg hc (Nat.le_refl _)).1
   have d0 := hB.c0; have d1 := hB.c1
   have hls := hc.size
   clear ev hv hlt
   go_wp2_with fail
   refine (hone _ hEr).mono ?_; rintro e w6 ⟨v, rfl, hv6, hb6⟩
   go_wp2_with fail
   go_ret
   exact ⟨v, O, rfl, e1, hv6.elr.more hls, hs.below hb6, hc.bl (hb6.mono hls)⟩
end Go.Proofs.YteaaepbnoiecoaaGreat
