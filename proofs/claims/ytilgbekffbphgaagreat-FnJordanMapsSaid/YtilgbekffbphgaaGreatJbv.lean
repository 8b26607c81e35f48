/- Texts joined for a claim: DpM, MarkJ, LawT, LawM. -/
import Derived.Test.YtilgbekffbphgaaGreatDpL
import Derived.Test.YtilgbekffbphgaaGreatJbu
import Derived.Test.YtilgbekffbphgaaGreatJbm
import Derived.Test.YtilgbekffbphgaaGreatJay
import Derived.Test.YtilgbekffbphgaaGreatJak
import Derived.Test.YtilgbekffbphgaaGreatJal
namespace Go.Proofs.YtilgbekffbphgaaGreat
open Go.RowKit
def DrS3 (w : World) (e : Ending) (w' : World) : Prop := ∃ (p : Int) (v l : Value) (st : List Int) (xss : List (List Int)), e = .returned (.tuple #[.agg #[.int .i64 p, v], l]) /\ 0 <= p /\ p <= 17 /\ st.length <= 5 /\ ElR w' w.heap.size v st /\ ReR w' w.heap.size l xss /\ xss.length <= 16 /\ (∀ xs ∈ xss, xs.length <= 16) /\ Below w.heap.size w w'
def DrME (w : World) (e : Ending) (w' : World) : Prop := ∃ (p : Int) (v l x : Value) (st : List Int) (xss : List (List Int)) (X : Her), e = .returned (.tuple #[.agg #[.int .i64 p, v], l, x]) /\ 0 <= p /\ p <= 17 /\ st.length <= 5 /\ ElR w' w.heap.size v st /\ ReR w' w.heap.size l xss /\ xss.length <= 16 /\ (∀ xs ∈ xss, xs.length <= 16) /\ HvR w' w.heap.size x X /\ Hsz X /\ Below w.heap.size w w'
def DrTR (w : World) (e : Ending) (w' : World) : Prop := ∃ (p k : Int) (v x : Value) (st : List Int) (X : Her), e = .returned (.tuple #[.agg #[.int .i64 p, v], x, .int .i64 k]) /\ 0 <= p /\ p <= 17 /\ st.length <= 5 /\ ElR w' w.heap.size v st /\ HvR w' w.heap.size x X /\ Hsz X /\ -1 <= k /\ k <= 3 /\ Below w.heap.size w w'
theorem RAf_sz {p : Int} {st : List Int} {ims : List (List Int)} (h : RAf1 p st ims = 0) : (RAf0 p st ims).length <= 16 /\ ∀ r ∈ RAf0 p st ims, r.length <= 16 := by
 have e : RAf0 p st ims = afM p st ims := if_pos h
 rw [e]
 unfold RAf1 at h
 split at h
 ·next h1 =>
  obtain ⟨hd, he⟩ := chk3_posA h1
  have h8 := (sz_le hd).2
  split at h
  ·next h2 =>
   obtain ⟨hl, hr⟩ := matB_iff.1 (af_facts hd he h2).1
   exact ⟨by omega, fun r hr2 => by have := (hr r hr2).1; omega⟩
  ·exact absurd h (by decide)
 ·next h1 => exact absurd h h1
set_option maxHeartbeats 16000000 in
set_option maxRecDepth 100000 in
theorem sdrawia_c {v : Value} {n : Nat} {w : World} (hc : Co w w.heap.size v n) :
  Calls Tryz.prog 17 #[v] w fun e w' => DrS3 w e w' := by
 obtain ⟨a, c, rfl, _⟩ := id hc
 go_enter Tryz.func17, Tryz.ntmps17
 go_wp2_with fail
 obtain ⟨W1, hW1⟩ : ∃ x, x = (w.alloc (.cells #[.int .i64 0, .slice none 0 0] 26)) := ⟨_, rfl⟩
 have hb1 : Below w.heap.size w W1 := by rw [hW1]; exact bwT
 have hz1 : W1.heap.size = w.heap.size + 1 := by rw [hW1]; simp
 have ra0 : Bd W1 w.heap.size (.int .i64 0) (.slice none 0 0) := by rw [hW1]; exact heap_alloc_new w _
 rw [<- hW1]; clear hW1
 refine (sfrom_c ((hc.below hb1).wide (by omega))).mono ?_; rintro e w2 ⟨rfl, hs, hz2, hb2⟩
 obtain ⟨q, hqe⟩ : ∃ q, q = W1.heap.size := ⟨_, rfl⟩
 rw [<- hqe] at hs ⊢
 have hq3 : w.heap.size + 1 <= q /\ q <= w.heap.size + 1 := by omega
 have ra0 := ra0.below hb2
 have hbw := hb1.trans (hb2.mono (by omega))
 have hzz : q + 1 <= w2.heap.size := by omega
 clear hqe hz1 hz2 hb1 hb2
 go_wp2_with fail
 refine (sdrawany_c hs (by decide) (by decide)).mono ?_; rintro e w3 ⟨p, v3, st, rfl, hp1, hp2, hl5, ho, hs, hc3⟩
 have ra0 := ra0.chg hc3 (.inl (by omega)); have hbw := below_bchg hbw hc3 (by omega) hbw.size; have hzz := Nat.le_trans hzz hc3.size
 have hE := (ho.elr).more (B' := q + 1) (by omega)
 obtain ⟨av, nv, cv, rfl⟩ := ho.form
 obtain rfl : nv = st.length := ho.len
 clear ho hc3
 go_wp2_with fail
 have hb5 : Below w3.heap.size w3 (w3.alloc (.cells #[.int .i64 p, .slice av st.length cv] 26)) := bwT
 have hd : Bd (w3.alloc (.cells #[.int .i64 p, .slice av st.length cv] 26)) w3.heap.size (.int .i64 p) (.slice av st.length cv) := heap_alloc_new _ _
 obtain ⟨M, hM⟩ : ∃ M, M = w3.heap.size := ⟨_, rfl⟩
 obtain ⟨W5, hW5⟩ : ∃ x, x = (w3.alloc (.cells #[.int .i64 p, .slice av st.length cv] 26)) := ⟨_, rfl⟩
 rw [<- hW5] at hb5 hd ⊢
 rw [<- hM] at hd ⊢
 have hMl : q + 1 <= M := by omega
 clear hM hW5
 have ra0 := ra0.below hb5; have hbw := hbw.trans (hb5.mono hbw.size); have hzz := Nat.le_trans hzz hb5.size
 have hs := hs.below hb5; have hE := hE.below hb5
 clear hb5
 have fin : ∀ (wx : World) (lv : Value) (yss : List (List Int)), ElR wx (q + 1) (.slice av st.length cv) st -> ReR wx (q + 1) lv yss -> yss.length <= 16 -> (∀ xs ∈ yss, xs.length <= 16) -> Below w.heap.size w wx ->
   DrS3 w (.returned (.tuple #[.agg #[.int .i64 p, .slice av st.length cv], lv])) ((wx.setCell ⟨w.heap.size, 0, none⟩ (.int .i64 p)).setCell ⟨w.heap.size, 1, none⟩ (.slice av st.length cv)) := by
  intro wx lv yss hE hR h4 h16 hb
  have hCF := chg_set_ (chg_set_ (Chg.refl (w := wx)) (lo := w.heap.size) (hi := w.heap.size + 1) (b := w.heap.size) (k := 0) (by omega) (by omega) (.int .i64 p)) (b := w.heap.size) (k := 1) (by omega) (by omega) (.slice av st.length cv)
  exact ⟨p, _, _, st, yss, rfl, hp1, hp2, hl5, (hE.chg hCF (by omega)).more (by omega), (hR.chg_ hCF (by omega)).more (by omega), h4, h16, below_bchg hb hCF (Nat.le_refl _) hb.size⟩
 have FIN := Lib.hid fin; clear fin
 have d0 := hd.c0; have d1 := hd.c1
 refine (snext_c hs (by decide) (by decide)).mono ?_; rintro e w3 ⟨y, rfl, hy0_, hy1_, hs, hc3, hz3_⟩
 have hd := hd.chg hc3 (.inr (by omega)); have hE := hE.chg hc3 (by omega)
 have ra0 := ra0.chg hc3 (.inl (by omega)); have hbw := below_bchg hbw hc3 (by omega) hbw.size; have hzz := Nat.le_trans hzz hc3.size
 clear hc3 hz3_ hy0_ hy1_ d0 d1
 go_upto_if 14 with fail
 go_cut [] (fun wx => Bd wx w.heap.size (.int .i64 0) (.slice none 0 0) /\ Below w.heap.size w wx /\ q + 1 <= wx.heap.size /\ Src wx q /\ ElR wx (q + 1) (.slice av st.length cv) st /\ Bd wx M (.int .i64 p) (.slice av st.length cv))
 case first =>
  have d0 := hd.c0; have d1 := hd.c1
  by_cases hy : 0 < y
  case neg =>
   go_wp2_with fail
   go_meet
   case rel => exact ⟨ra0, hbw, hzz, hs, hE, hd⟩
  go_upto_region 4 with fail
  have hbq_ : Below w3.heap.size w3 w3.drew := bwT
  have ra0 := ra0.below hbq_; have hbw := hbw.trans (hbq_.mono hbw.size); have hzz := Nat.le_trans hzz hbq_.size; have hs := hs.below hbq_; have hd := hd.below hbq_; have hE := hE.below hbq_
  clear hbq_ d0 d1
  refine @region_flowR ⟨q, q + 1⟩ _ [(false, [(0, 1), (1, 0), (2, 1), (3, 5)]), (false, [(4, 4), (5, 0), (6, 0), (7, 0), (8, 0), (9, 0)])] _ _ _ _ _ (by kernel_rfl) ?_
  refine norm_K fun K hK => ?_
  change wpList _ _ _ [_, _, _, _] _ _
  generalize w3.drew = wq at *
  have hld := hd; have d0 := hd.c0; have d1 := hd.c1
  go_wp2_with fail
  refine (sdrawim_c hs hE.1 hp1 hp2 hl5).mono ?_; rintro e w6 ⟨v6, us, xss, rfl, hXl, h16, hl, hs, hc6⟩
  have hl := hl.more (B' := q + 1) hzz
  have hd := hd.chg hc6 (.inr (by omega)); have hE := hE.chg hc6 (by omega)
  have ra0 := ra0.chg hc6 (.inl (by omega)); have hbw := below_bchg hbw hc6 (by omega) hbw.size; have hzz := Nat.le_trans hzz hc6.size
  have hRl := hl.rer
  have hX4 : xss.length <= 16 := by omega
  obtain ⟨a6, c6, rfl⟩ := hl.form
  have HUL := Lib.hid (And.intro hl.len hXl); clear hXl d0 d1
  have d0 := hd.c0; have d1 := hd.c1
  go_wp2_with fail
  first | (refine hK _ _ ⟨hc6, ?_⟩; clear hK K) | refine ⟨hc6, ?_⟩
  refine norm_K fun K hK => ?_
  change wpList _ _ _ [_, _, _, _, _, _] _ _
  go_wp2_with fail
  refine (saf_c hE.1 (by omega) hRl.re (by omega) (fun xs h => by have := h16 xs h; omega)).mono ?_; rintro e w7 ⟨vm, rfl, hm, hb7⟩
  have hm := hm.more (B' := q + 1) hzz
  have ra0 := ra0.below hb7; have hbw := hbw.trans (hb7.mono hbw.size); have hzz := Nat.le_trans hzz hb7.size; have hs := hs.below hb7; have hd := hd.below hb7; have hE := hE.below hb7
  obtain ⟨am, cm, rfl⟩ := hm.shape
  go_wp2_with fail
  first | (refine hK _ _ ⟨⟨rfl, ?_⟩, ?_⟩; clear hK K) | refine ⟨⟨rfl, ?_⟩, ?_⟩
  ·repeat' (first | exact trivial | exact ⟨_, rfl, (show M < q \/ q + 1 <= M by omega), _, _, _, hld⟩ | refine And.intro ?_ ?_)
  clear d0 d1 hld hc6 hb7 hRl hl HUL
  have d0 := hd.c0; have d1 := hd.c1
  obtain ⟨k, hk⟩ : ∃ k, k = RAf1 p st xss := ⟨_, rfl⟩
  rw [<- hk]
  have HK := Lib.hid hk; clear hk
  by_cases hk0 : k = 0
  case neg =>
   have hkb : (k == 0) = false := by simpa using hk0
   go_wp2_with fail
   go_meet
   case rel => exact ⟨ra0, hbw, hzz, hs, hE, hd⟩
  subst hk0
  obtain ⟨hm1, hm2⟩ := RAf_sz HK.out.symm
  have r00 := ra0.c0; have r01 := ra0.c1; have f00 := ra0.f 0; have f01 := ra0.f 1
  go_wp2_with fail
  refine bodyPost_ret (v := .tuple #[.agg #[.int .i64 p, .slice av st.length cv], .slice am (RAf0 p st xss).length cm]) (by simp [results, Tryz.results17, go_sem, r00, r01]) rfl ?_
  exact FIN.out _ _ _ hE hm hm1 hm2 hbw
 case' rest => skip
 clear ra0 hbw hzz hs hE hd
 obtain ⟨ra0, hbw, hzz, hs, hE, hd⟩ := hcut
 go_upto_region 7 with fail
 have hbq_ : Below wc.heap.size wc wc.drew := bwT
 have ra0 := ra0.below hbq_; have hbw := hbw.trans (hbq_.mono hbw.size); have hzz := Nat.le_trans hzz hbq_.size; have hs := hs.below hbq_; have hd := hd.below hbq_; have hE := hE.below hbq_
 clear hbq_
 refine @region_flowR ⟨w.heap.size, q + 1⟩ _ [(false, [(0, 1), (1, 0), (2, 1), (3, 5)]), (false, [(4, 4), (5, 0)])] _ _ _ _ _ (by kernel_rfl) ?_
 refine norm_K fun K hK => ?_
 change wpList _ _ _ [_, _, _, _] _ _
 generalize wc.drew = wq at *
 have hcq : Chg w.heap.size (q + 1) wq wq := Chg.refl
 have d0 := hd.c0; have d1 := hd.c1; have hld := hd
 go_wp2_with fail
 refine (sdrawmx_c hs hE hp1 hp2 hl5).mono ?_; rintro e w10 ⟨v_, xss, rfl, hx16, h16, hx, hs, hc_⟩
 have hx := hx.more (B' := q + 1) hzz
 have hd := hd.chg hc_ (.inr (by omega)); have hE := hE.chg hc_ (by omega)
 have ra0 := ra0.chg hc_ (.inl (by omega)); have hbw := below_bchg hbw hc_ (by omega) hbw.size; have hzz := Nat.le_trans hzz hc_.size
 have hcq := hcq.trans (hc_.wide (lo' := w.heap.size) (hi' := q + 1) (by omega) (Nat.le_refl _))
 clear hc_
 obtain ⟨ax, cx, rfl⟩ := hx.shape
 have r00 := ra0.c0; have r01 := ra0.c1; have f00 := ra0.f 0; have f01 := ra0.f 1
 go_wp2_with fail
 first | (refine hK _ _ ⟨hcq, ?_⟩; clear hK K) | refine ⟨hcq, ?_⟩
 refine norm_K fun K hK => ?_
 change wpList _ _ _ [_, _] _ _
 go_wp2_with fail
 first | (refine hK _ _ ⟨⟨rfl, ?_⟩, ?_⟩; clear hK K) | refine ⟨⟨rfl, ?_⟩, ?_⟩
 ·repeat' (first | exact trivial | exact ⟨_, rfl, (show M < w.heap.size \/ q + 1 <= M by omega), _, _, _, hld⟩ | refine And.intro ?_ ?_)
 go_wp2_with fail
 refine bodyPost_ret (v := .tuple #[.agg #[.int .i64 p, .slice av st.length cv], .slice ax xss.length cx]) (by simp [results, Tryz.results17, go_sem, r00, r01]) rfl ?_
 exact FIN.out _ _ _ hE hx hx16 h16 hbw
set_option maxHeartbeats 16000000 in
set_option maxRecDepth 100000 in
theorem sdrawme_c {v : Value} {n : Nat} {w : World} (hc : Co w w.heap.size v n) :
  Calls Tryz.prog 5 #[v] w fun e w' => DrME w e w' := by
 obtain ⟨a, c, rfl, _⟩ := id hc
 go_enter Tryz.func5, Tryz.ntmps5
 go_wp2_with fail
 obtain ⟨W1, hW1⟩ : ∃ x, x = ((w.alloc (.cells #[.int .i64 0, .slice none 0 0] 26)).alloc (.cells #[.slice none 0 0, .slice none 0 0] 29)) := ⟨_, rfl⟩
 have hb1 : Below w.heap.size w W1 := by rw [hW1]; exact bwT
 have hz1 : W1.heap.size = w.heap.size + 1 + 1 := by rw [hW1]; simp
 have ra0 : Bd W1 w.heap.size (.int .i64 0) (.slice none 0 0) := by rw [hW1]; exact Bd.below (heap_alloc_new w _) bwT
 have ra1 : Bx W1 (w.heap.size + 1) (.slice none 0 0) (.slice none 0 0) := by
  rw [hW1]
  have h := heap_alloc_new (w.alloc (.cells #[.int .i64 0, .slice none 0 0] 26)) (.cells #[.slice none 0 0, .slice none 0 0] 29)
  rw [show (w.alloc (.cells #[.int .i64 0, .slice none 0 0] 26)).heap.size = w.heap.size + 1 by simp] at h
  exact Bx.below h bwT
 rw [<- hW1]
 clear hW1
 refine (sfrom_c ((hc.below hb1).wide (by omega))).mono ?_; rintro e w2 ⟨rfl, hs, hz2, hb2⟩
 obtain ⟨q, hqe⟩ : ∃ q, q = W1.heap.size := ⟨_, rfl⟩
 rw [<- hqe] at hs ⊢
 have hq3 : w.heap.size + 1 + 1 <= q /\ q <= w.heap.size + 1 + 1 := by omega
 have ra0 := ra0.below hb2; have ra1 := ra1.below hb2
 have hbw := hb1.trans (hb2.mono (by omega))
 have hzz : q + 1 <= w2.heap.size := by omega
 clear hqe hz1 hz2 hb1 hb2
 go_wp2_with fail
 refine (sdrawia_c ((hc.below hbw).wide (by have := hbw.size; omega))).mono ?_; rintro e w3 ⟨p, v3, l3, st, xss, rfl, hp1, hp2, hl5, hE, hR, hR16, h16, hb3⟩
 have ra0 := ra0.below hb3; have ra1 := ra1.below hb3; have hs := hs.below hb3
 have hE := hE.more (B' := q + 1) hzz; have hR := hR.more (B' := q + 1) hzz
 have hbw := hbw.trans (hb3.mono hbw.size); have hzz := Nat.le_trans hzz hb3.size
 clear hb3
 obtain ⟨av, cv, rfl⟩ := hE.shape_
 obtain ⟨al, cl, rfl⟩ := hR.shape
 go_upto_region 3 with fail
 have hb5 : Below w3.heap.size w3 (w3.alloc (.cells #[.int .i64 p, .slice av st.length cv] 26)).drew := bwT
 have hd : Bd (w3.alloc (.cells #[.int .i64 p, .slice av st.length cv] 26)).drew w3.heap.size (.int .i64 p) (.slice av st.length cv) := heap_alloc_new w3 _
 have ra0 := ra0.below hb5; have ra1 := ra1.below hb5; have hs := hs.below hb5; have hE := hE.below hb5; have hR := hR.below_ hb5
 have hbw := hbw.trans (hb5.mono hbw.size)
 obtain ⟨M, hM⟩ : ∃ M, M = w3.heap.size := ⟨_, rfl⟩
 rw [<- hM] at hd ⊢
 have hMl : q + 1 <= M := by omega
 have hzz := Nat.le_trans hzz hb5.size
 clear hM hb5
 refine @region_flowR ⟨w.heap.size, q + 1⟩ _ [(false, [(0, 1), (1, 0), (2, 0), (3, 1), (4, 5)]), (false, [(5, 4), (6, 0), (7, 4)])] _ _ _ _ _ (by kernel_rfl) ?_
 refine norm_K fun K hK => ?_
 change wpList _ _ _ [_, _, _, _, _] _ _
 generalize (w3.alloc (.cells #[.int .i64 p, .slice av st.length cv] 26)).drew = wq at *
 have hcq : Chg w.heap.size (q + 1) wq wq := Chg.refl
 have d0 := hd.c0; have d1 := hd.c1; have hld := hd
 go_wp2_with fail
 refine (sdrawone_c hs hE (Nat.lt_succ_self _) hp1 hp2 hl5).mono ?_; rintro e w10 ⟨v_, X, rfl, hX, hXz, hs, hc_⟩
 have hX := hX.more (B' := q + 1) hzz
 have hcq := hcq.trans (hc_.wide (lo' := w.heap.size) (hi' := q + 1) (by omega) (Nat.le_refl _))
 have hE := hE.chg hc_ (by omega); have hR := hR.chg_ hc_ (by omega); have ra1 := ra1.chg hc_ (.inl (by omega))
 have ra0 := ra0.chg hc_ (.inl (by omega)); have hbw := below_bchg hbw hc_ (by omega) hbw.size; have hzz := Nat.le_trans hzz hc_.size
 clear hc_ d0 d1
 obtain ⟨a0, c0, b0, e0, rfl⟩ := hX.shape
 have r00 := ra0.c0; have r01 := ra0.c1; have f00 := ra0.f 0; have f01 := ra0.f 1
 have r10 := ra1.c0; have r11 := ra1.c1; have f10 := ra1.f0; have f11 := ra1.f1
 go_wp2_with fail
 first | (refine hK _ _ ⟨hcq, ?_⟩; clear hK K) | refine ⟨hcq, ?_⟩
 refine norm_K fun K hK => ?_
 change wpList _ _ _ [_, _, _] _ _
 go_wp2_with fail
 first | (refine hK _ _ ⟨⟨rfl, ?_⟩, ?_⟩; clear hK K) | refine ⟨⟨rfl, ?_⟩, ?_⟩
 ·repeat' (first | exact trivial | exact ⟨_, rfl, (show M < w.heap.size \/ q + 1 <= M by omega), _, _, _, hld⟩ | refine And.intro ?_ ?_)
 go_wp2_with fail
 have hCF := (((((Chg.refl (w := w10)).trans ((Chg.set _ ⟨w.heap.size, 0, none⟩ (.int .i64 p)).wide (lo' := w.heap.size) (hi' := w.heap.size + 1 + 1) (by show w.heap.size <= w.heap.size; omega) (by show w.heap.size + 1 <= w.heap.size + 1 + 1; omega))).trans ((Chg.set _ ⟨w.heap.size, 1, none⟩ (.slice av st.length cv)).wide (lo' := w.heap.size) (hi' := w.heap.size + 1 + 1) (by show w.heap.size <= w.heap.size; omega) (by show w.heap.size + 1 <= w.heap.size + 1 + 1; omega))).trans ((Chg.set _ ⟨w.heap.size + 1, 0, none⟩ (.slice a0 X.dg.length c0)).wide (lo' := w.heap.size) (hi' := w.heap.size + 1 + 1) (by show w.heap.size <= w.heap.size + 1; omega) (by show w.heap.size + 1 + 1 <= w.heap.size + 1 + 1; omega))).trans ((Chg.set _ ⟨w.heap.size + 1, 1, none⟩ (.slice b0 X.up.length e0)).wide (lo' := w.heap.size) (hi' := w.heap.size + 1 + 1) (by show w.heap.size <= w.heap.size + 1; omega) (by show w.heap.size + 1 + 1 <= w.heap.size + 1 + 1; omega)))
 refine bodyPost_ret (v := .tuple #[.agg #[.int .i64 p, .slice av st.length cv], .slice al xss.length cl, .agg #[.slice a0 X.dg.length c0, .slice b0 X.up.length e0]]) (by simp [results, Tryz.results5, go_sem, r00, r01, r10, r11]) rfl ?_
 exact ⟨p, _, _, _, st, xss, X, rfl, hp1, hp2, hl5, (hE.chg hCF (by omega)).more (by omega), (hR.chg_ hCF (by omega)).more (by omega), hR16, h16, (hX.chg hCF (by omega)).more (by omega), hXz, below_bchg hbw hCF (Nat.le_refl _) hbw.size⟩
set_option maxHeartbeats 16000000 in
set_option maxRecDepth 100000 in
theorem sdrawtr_c {v : Value} {n : Nat} {w : World} (hc : Co w w.heap.size v n) :
  Calls Tryz.prog 9 #[v] w fun e w' => DrTR w e w' := by
 obtain ⟨a, c, rfl, _⟩ := id hc
 go_enter Tryz.func9, Tryz.ntmps9
 go_wp2_with fail
 obtain ⟨W1, hW1⟩ : ∃ x, x = ((w.alloc (.cells #[.int .i64 0, .slice none 0 0] 26)).alloc (.cells #[.slice none 0 0, .slice none 0 0] 29)) := ⟨_, rfl⟩
 have hb1 : Below w.heap.size w W1 := by rw [hW1]; exact bwT
 have hz1 : W1.heap.size = w.heap.size + 1 + 1 := by rw [hW1]; simp
 have ra0 : Bd W1 w.heap.size (.int .i64 0) (.slice none 0 0) := by rw [hW1]; exact Bd.below (heap_alloc_new w _) bwT
 have ra1 : Bx W1 (w.heap.size + 1) (.slice none 0 0) (.slice none 0 0) := by
  rw [hW1]
  have h := heap_alloc_new (w.alloc (.cells #[.int .i64 0, .slice none 0 0] 26)) (.cells #[.slice none 0 0, .slice none 0 0] 29)
  rw [show (w.alloc (.cells #[.int .i64 0, .slice none 0 0] 26)).heap.size = w.heap.size + 1 by simp] at h
  exact Bx.below h bwT
 rw [<- hW1]
 clear hW1
 refine (sdrawh1_c ((hc.below hb1).wide (by omega))).mono ?_; rintro e w2 ⟨p, v, x, st, X, rfl, hp1, hp2, hl5, hE, hX, hXz, hb2⟩
 have ra0 := ra0.below hb2; have ra1 := ra1.below hb2
 have hbw := hb1.trans (hb2.mono (by omega))
 have hE := hE.more (B' := w.heap.size + 1 + 1) (by omega); have hX := hX.more (B' := w.heap.size + 1 + 1) (by omega)
 have hzz : w.heap.size + 1 + 1 <= w2.heap.size := by have := hb2.size; omega
 clear hz1 hb1 hb2
 obtain ⟨av, cv, rfl⟩ := hE.shape_
 obtain ⟨a0, c0, b0, e0, rfl⟩ := hX.shape
 go_upto_region 2 with fail
 have hb5 : Below w2.heap.size w2 ((w2.alloc (.cells #[.int .i64 p, .slice av st.length cv] 26)).alloc (.cells #[.slice a0 X.dg.length c0, .slice b0 X.up.length e0] 29)).drew := bwT
 have hd : Bd ((w2.alloc (.cells #[.int .i64 p, .slice av st.length cv] 26)).alloc (.cells #[.slice a0 X.dg.length c0, .slice b0 X.up.length e0] 29)).drew w2.heap.size (.int .i64 p) (.slice av st.length cv) := Bd.below (heap_alloc_new w2 _) bwT
 have hh : Bx ((w2.alloc (.cells #[.int .i64 p, .slice av st.length cv] 26)).alloc (.cells #[.slice a0 X.dg.length c0, .slice b0 X.up.length e0] 29)).drew (w2.heap.size + 1) (.slice a0 X.dg.length c0) (.slice b0 X.up.length e0) := by
  have h := heap_alloc_new (w2.alloc (.cells #[.int .i64 p, .slice av st.length cv] 26)) (.cells #[.slice a0 X.dg.length c0, .slice b0 X.up.length e0] 29)
  rw [show (w2.alloc (.cells #[.int .i64 p, .slice av st.length cv] 26)).heap.size = w2.heap.size + 1 by simp] at h
  exact Bx.below h bwT
 have ra0 := ra0.below hb5; have ra1 := ra1.below hb5; have hE := hE.below hb5; have hX := hX.below hb5
 have hbw := hbw.trans (hb5.mono hbw.size)
 obtain ⟨M, hM⟩ : ∃ M, M = w2.heap.size := ⟨_, rfl⟩
 rw [<- hM] at hd hh ⊢
 have hMl : w.heap.size + 1 + 1 <= M := by omega
 have hzz := Nat.le_trans hzz hb5.size
 clear hM hb5
 refine @region_flowR ⟨w.heap.size, w.heap.size + 1 + 1⟩ _ [(false, [(0, 1), (1, 1), (2, 0), (3, 5)]), (false, [(4, 5)]), (false, [(5, 0), (6, 5)]), (false, [(7, 4), (8, 0)])] _ _ _ _ _ (by kernel_rfl) ?_
 refine norm_K fun K hK => ?_
 change wpList _ _ _ [_, _, _, _] _ _
 generalize ((w2.alloc (.cells #[.int .i64 p, .slice av st.length cv] 26)).alloc (.cells #[.slice a0 X.dg.length c0, .slice b0 X.up.length e0] 29)).drew = wq at *
 have hcq : Chg w.heap.size (w.heap.size + 1 + 1) wq wq := Chg.refl
 have d0 := hd.c0; have d1 := hd.c1; have hld := hd; have t0 := hh.c0; have t1 := hh.c1; have hlh := hh
 go_wp2_with fail
 refine (sfrom_c ((hc.below hbw).wide hbw.size)).mono ?_; rintro e w6 ⟨rfl, hs, hz6_, hb6⟩
 obtain ⟨q, hq⟩ : ∃ q, q = wq.heap.size := ⟨_, rfl⟩
 rw [<- hq] at hs ⊢
 have hbq6 : Below q wq w6 := by rw [hq]; exact hb6
 have hcq := hcq.bl hb6
 have hqz : w.heap.size + 1 + 1 <= q := by omega
 have hzq : q <= w6.heap.size := by have := hb6.size; omega
 have HQ := Lib.hid hq; clear hz6_ hb6 hq
 go_wp2_with fail
 first | (refine hK _ _ ⟨hcq, ?_⟩; clear hK K) | refine ⟨hcq, ?_⟩
 refine norm_K fun K hK => ?_
 change wpList _ _ _ [_] _ _
 go_wp2_with fail
 refine (snext_c hs (by decide) (by decide)).mono ?_; rintro e w7 ⟨k, rfl, hk0, hk1, hs, hc7, hz7_⟩
 have hk2 : k <= 4 := by omega
 have hbq7 : Below q wq w7 := below_bchg hbq6 hc7 (Nat.le_refl _) hzq
 have hcq : Chg w.heap.size (w.heap.size + 1 + 1) wq w7 := Chg.refl.bl (hbq7.mono (Nat.le_of_eq HQ.out.symm))
 have ra0 := ra0.bl hbq7 (by omega); have ra1 := ra1.bl hbq7 (by omega)
 have hE := hE.below (hbq7.mono (Nat.le_of_eq HQ.out.symm)); have hX := hX.below (hbq7.mono (Nat.le_of_eq HQ.out.symm))
 have hbw : Below w.heap.size w w7 := hbw.trans (hbq7.mono (by omega))
 clear hk1 hz7_ hc7 hbq6 hbq7 hs HQ hzq
 go_wp2_with fail
 first | (refine hK _ _ ⟨hcq, ?_⟩; clear hK K) | refine ⟨hcq, ?_⟩
 refine norm_K fun K hK => ?_
 change wpList _ _ _ [_, _] _ _
 have r00 := ra0.c0; have r01 := ra0.c1; have f00 := ra0.f 0; have f01 := ra0.f 1
 have r10 := ra1.c0; have r11 := ra1.c1; have f10 := ra1.f0; have f11 := ra1.f1
 go_wp2_with fail
 first | (refine hK _ _ ⟨hcq.trans (((Chg.refl (w := w7)).trans ((Chg.set _ ⟨w.heap.size, 0, none⟩ (.int .i64 p)).wide (lo' := w.heap.size) (hi' := w.heap.size + 1 + 1) (by show w.heap.size <= w.heap.size; omega) (by show w.heap.size + 1 <= w.heap.size + 1 + 1; omega))).trans ((Chg.set _ ⟨w.heap.size, 1, none⟩ (.slice av st.length cv)).wide (lo' := w.heap.size) (hi' := w.heap.size + 1 + 1) (by show w.heap.size <= w.heap.size; omega) (by show w.heap.size + 1 <= w.heap.size + 1 + 1; omega))), ?_⟩; clear hK K) | refine ⟨hcq.trans (((Chg.refl (w := w7)).trans ((Chg.set _ ⟨w.heap.size, 0, none⟩ (.int .i64 p)).wide (lo' := w.heap.size) (hi' := w.heap.size + 1 + 1) (by show w.heap.size <= w.heap.size; omega) (by show w.heap.size + 1 <= w.heap.size + 1 + 1; omega))).trans ((Chg.set _ ⟨w.heap.size, 1, none⟩ (.slice av st.length cv)).wide (lo' := w.heap.size) (hi' := w.heap.size + 1 + 1) (by show w.heap.size <= w.heap.size; omega) (by show w.heap.size + 1 <= w.heap.size + 1 + 1; omega))), ?_⟩
 refine norm_K fun K hK => ?_
 change wpList _ _ _ [_, _] _ _
 go_wp2_with fail
 first | (refine hK _ _ ⟨⟨rfl, ?_⟩, ?_⟩; clear hK K) | refine ⟨⟨rfl, ?_⟩, ?_⟩
 ·repeat' (first | exact trivial | exact ⟨_, rfl, (show M < w.heap.size \/ w.heap.size + 1 + 1 <= M by omega), _, _, _, hld⟩ | exact ⟨_, rfl, (show M + 1 < w.heap.size \/ w.heap.size + 1 + 1 <= M + 1 by omega), _, _, _, hlh⟩ | refine And.intro ?_ ?_)
 go_wp2_with fail
 have hCF := (((((Chg.refl (w := w7)).trans ((Chg.set _ ⟨w.heap.size, 0, none⟩ (.int .i64 p)).wide (lo' := w.heap.size) (hi' := w.heap.size + 1 + 1) (by show w.heap.size <= w.heap.size; omega) (by show w.heap.size + 1 <= w.heap.size + 1 + 1; omega))).trans ((Chg.set _ ⟨w.heap.size, 1, none⟩ (.slice av st.length cv)).wide (lo' := w.heap.size) (hi' := w.heap.size + 1 + 1) (by show w.heap.size <= w.heap.size; omega) (by show w.heap.size + 1 <= w.heap.size + 1 + 1; omega))).trans ((Chg.set _ ⟨w.heap.size + 1, 0, none⟩ (.slice a0 X.dg.length c0)).wide (lo' := w.heap.size) (hi' := w.heap.size + 1 + 1) (by show w.heap.size <= w.heap.size + 1; omega) (by show w.heap.size + 1 + 1 <= w.heap.size + 1 + 1; omega))).trans ((Chg.set _ ⟨w.heap.size + 1, 1, none⟩ (.slice b0 X.up.length e0)).wide (lo' := w.heap.size) (hi' := w.heap.size + 1 + 1) (by show w.heap.size <= w.heap.size + 1; omega) (by show w.heap.size + 1 + 1 <= w.heap.size + 1 + 1; omega)))
 refine bodyPost_ret (v := .tuple #[.agg #[.int .i64 p, .slice av st.length cv], .agg #[.slice a0 X.dg.length c0, .slice b0 X.up.length e0], .int .i64 (k - 1)]) (by simp [results, Tryz.results9, go_sem, r00, r01, r10, r11]) rfl ?_
 exact ⟨p, k - 1, _, _, st, X, rfl, hp1, hp2, hl5, (hE.chg hCF (by omega)).more (by omega), (hX.chg hCF (by omega)).more (by omega), hXz, by omega, by omega, below_bchg hbw hCF (Nat.le_refl _) hbw.size⟩

theorem Hs.none : Hs ⟨[], []⟩ := ⟨⟨by simp, by simp, fun xs hx => by simp at hx⟩, by simp [sumL]⟩
theorem isH_hs {p : Int} {st : List Int} {X : Her} (hd : Dok p st) (h : isH p (sz st.length) X = true) : Hs X := by
 have hs := sz_le hd
 obtain ⟨a, b, c, u, v, t, rfl, _, _, _, _, _, _, h1, h2, h3⟩ := isH_op h
 have e1 := h1.1; have e2 := h2.1; have e3 := h3.1
 refine ⟨⟨by simp, by simp, fun xs hx => ?_⟩, ?_⟩
 ·simp only [List.mem_cons, List.not_mem_nil, or_false] at hx
  rcases hx with rfl | rfl | rfl <;> omega
 ·simp only [sumL]; omega
structure Msz (M : List (List Int)) : Prop where
 h2 : M.length <= 1048576
 h3 : ∀ xs ∈ M, xs.length <= 1048576
 sum : sumL M <= 10000000
end Go.Proofs.YtilgbekffbphgaaGreat
