/- Texts joined for a claim: GuK, HeB, AuA, AfB. -/
import Derived.Deep.CutBlock
import Derived.Test.YteaaepbnoiecoaaGreatGuJ
import Derived.Test.YteaaepbnoiecoaaGreatJbl
import Derived.Test.YteaaepbnoiecoaaGreatTgD
import Derived.Test.YteaaepbnoiecoaaGreatTgB
import Derived.Test.YteaaepbnoiecoaaGreatJbb
import Derived.Test.YteaaepbnoiecoaaGreatJaw
namespace Go.Proofs.YteaaepbnoiecoaaGreat
open Go.RowKit
def DrGT (w : World) (e : Ending) (w' : World) : Prop := ∃ (p : Int) (v a b c : Value) (st : List Int), e = .returned (.tuple #[.agg #[.int .i64 p, v], .agg #[a, b, c]]) /\ 0 <= p /\ p <= 17 /\ st.length <= 5 /\ ElR w' w.heap.size v st /\ SqE w' w.heap.size 16 a /\ SqE w' w.heap.size 16 b /\ SqE w' w.heap.size 16 c /\ Below w.heap.size w w'
def DrUT (w : World) (e : Ending) (w' : World) : Prop := ∃ (p : Int) (v x : Value) (st xs : List Int), e = .returned (.tuple #[.agg #[.int .i64 p, v], x]) /\ 0 <= p /\ p <= 17 /\ st.length <= 5 /\ ElR w' w.heap.size v st /\ ElR w' w.heap.size x xs /\ xs.length <= 16 /\ Below w.heap.size w w'
theorem drgt_fin {w W : World} {p : Int} {v a b c : Value} {st : List Int} (hp1 : 0 <= p) (hp2 : p <= 17) (hl : st.length <= 5) (hE : ElR W (w.heap.size + 1 + 1) v st) (ha : SqE W (w.heap.size + 1 + 1) 16 a) (hb : SqE W (w.heap.size + 1 + 1) 16 b) (hcc : SqE W (w.heap.size + 1 + 1) 16 c)
  (hw : Below w.heap.size w W) : DrGT w (.returned (.tuple #[.agg #[.int .i64 p, v], .agg #[a, b, c]])) (((((W.setCell ⟨w.heap.size, 0, none⟩ (.int .i64 p)).setCell ⟨w.heap.size, 1, none⟩ v).setCell ⟨w.heap.size + 1, 0, none⟩ a).setCell ⟨w.heap.size + 1, 1, none⟩ b).setCell ⟨w.heap.size + 1, 2, none⟩ c) := by
 have hk : ∀ x, w.heap.size + 1 + 1 <= x -> x < W.heap.size -> (((((W.setCell ⟨w.heap.size, 0, none⟩ (.int .i64 p)).setCell ⟨w.heap.size, 1, none⟩ v).setCell ⟨w.heap.size + 1, 0, none⟩ a).setCell ⟨w.heap.size + 1, 1, none⟩ b).setCell ⟨w.heap.size + 1, 2, none⟩ c).heap[x]? = W.heap[x]? := fun x hx _ => by
  rw [Below.heap_setCell _ _ _ _ (show x ≠ w.heap.size + 1 by omega), Below.heap_setCell _ _ _ _ (show x ≠ w.heap.size + 1 by omega), Below.heap_setCell _ _ _ _ (show x ≠ w.heap.size + 1 by omega), Below.heap_setCell _ _ _ _ (show x ≠ w.heap.size by omega), Below.heap_setCell _ _ _ _ (show x ≠ w.heap.size by omega)]
 have hz : W.heap.size <= (((((W.setCell ⟨w.heap.size, 0, none⟩ (.int .i64 p)).setCell ⟨w.heap.size, 1, none⟩ v).setCell ⟨w.heap.size + 1, 0, none⟩ a).setCell ⟨w.heap.size + 1, 1, none⟩ b).setCell ⟨w.heap.size + 1, 2, none⟩ c).heap.size := by simp
 exact ⟨p, v, a, b, c, st, rfl, hp1, hp2, hl, (hE.keep hz fun x off sp n cc e => hk x (hE.2 _ _ _ _ _ e).1 (hE.2 _ _ _ _ _ e).2).more (by omega), (ha.keep hz hk).more (by omega), (hb.keep hz hk).more (by omega), (hcc.keep hz hk).more (by omega), bwS (bwS (bwS (bwS (bwS hw (Nat.le_refl _) _) (Nat.le_refl _) _) (Nat.le_succ _) _) (Nat.le_succ _) _) (Nat.le_succ _) _⟩
set_option maxHeartbeats 16000000 in
set_option maxRecDepth 100000 in
theorem sdrawlt_c {v : Value} {n : Nat} {w : World} (hc : Co w w.heap.size v n) :
  Calls Tryz.prog 17 #[v] w fun e w' => DrGT w e w' := by
 obtain ⟨a, c, rfl, _⟩ := id hc
 go_enter Tryz.func17, Tryz.ntmps17
 go_wp2_with fail
 obtain ⟨W0, hW0⟩ : ∃ x, x = ((w.alloc (.cells #[.int .i64 0, .slice none 0 0] 26)).alloc (.cells #[.slice none 0 0, .slice none 0 0, .slice none 0 0] 29)) := ⟨_, rfl⟩
 have hb0 : Below w.heap.size w W0 := by rw [hW0]; exact bwT
 have hRd : Bd W0 w.heap.size (.int .i64 0) (.slice none 0 0) := by rw [hW0]; exact Bd.below (heap_alloc_new w _) bwT
 have hR : Bt W0 (w.heap.size + 1) (.slice none 0 0) (.slice none 0 0) (.slice none 0 0) := by
  have h := heap_alloc_new (w.alloc (.cells #[.int .i64 0, .slice none 0 0] 26)) (.cells #[.slice none 0 0, .slice none 0 0, .slice none 0 0] 29)
  rw [show (w.alloc (.cells #[.int .i64 0, .slice none 0 0] 26)).heap.size = w.heap.size + 1 by simp] at h
  rw [hW0]; exact h
 have hzz : w.heap.size + 1 + 1 <= W0.heap.size := by rw [hW0]; simp
 have hco : Co W0 W0.heap.size (.slice a n c) n := (hc.below hb0).wide (by omega)
 rw [<- hW0]; clear hW0
 refine (sfrom_c hco).mono ?_; rintro e w1 ⟨rfl, hs, hz1, hb1⟩
 have hRd := hRd.below hb1; have hR := hR.below hb1
 have hbw := hb0.trans (hb1.mono hb0.size)
 obtain ⟨q, hq_⟩ : ∃ q, q = W0.heap.size := ⟨_, rfl⟩
 rw [<- hq_] at hs ⊢
 have hq : w.heap.size + 1 + 1 <= q := by omega
 have hzq : q <= w1.heap.size := by omega
 clear hb0 hb1 hz1 hzz hq_ hco
 go_wp2_with fail
 refine (sdrawtri_c hs).mono ?_; rintro e w2 ⟨p, v, a_, b_, c_, st, rfl, hp1, hp2, hl5, hE, hm1, hm2, hm3, hs, hc2⟩
 obtain ⟨av, cv, rfl⟩ := hE.shape_
 obtain ⟨a1, n1, c1, rfl⟩ := hm1.form; obtain ⟨a2, n2, c2, rfl⟩ := hm2.form; obtain ⟨a3, n3, c3, rfl⟩ := hm3.form
 have hRd := hRd.chg hc2 (.inl (by omega)); have hR := hR.chg hc2 (.inl (by omega))
 have hbw : Below w.heap.size w w2 := below_bchg hbw hc2 (by omega) hbw.size
 have hE := hE.more (B' := w.heap.size + 1 + 1) (by omega); have hm1 := hm1.more (B' := w.heap.size + 1 + 1) (by omega); have hm2 := hm2.more (B' := w.heap.size + 1 + 1) (by omega); have hm3 := hm3.more (B' := w.heap.size + 1 + 1) (by omega)
 have hz2 : w.heap.size + 1 + 1 <= w2.heap.size := by have := hc2.size; omega
 clear hs hc2 hzq
 go_upto_region 2 with fail
 obtain ⟨W3, hW3⟩ : ∃ x, x = ((w2.alloc (.cells #[.int .i64 p, .slice av st.length cv] 26)).alloc (.cells #[.slice a1 n1 c1, .slice a2 n2 c2, .slice a3 n3 c3] 29)) := ⟨_, rfl⟩
 obtain ⟨M, hM_⟩ : ∃ M, M = w2.heap.size := ⟨_, rfl⟩
 have hb3 : Below w2.heap.size w2 W3 := by rw [hW3]; exact bwT
 have hBd : Bd W3 M (.int .i64 p) (.slice av st.length cv) := by rw [hW3, hM_]; exact Bd.below (heap_alloc_new w2 _) bwT
 have hN : Bt W3 (M + 1) (.slice a1 n1 c1) (.slice a2 n2 c2) (.slice a3 n3 c3) := by
  have h := heap_alloc_new (w2.alloc (.cells #[.int .i64 p, .slice av st.length cv] 26)) (.cells #[.slice a1 n1 c1, .slice a2 n2 c2, .slice a3 n3 c3] 29)
  rw [show (w2.alloc (.cells #[.int .i64 p, .slice av st.length cv] 26)).heap.size = w2.heap.size + 1 by simp] at h
  rw [hW3, hM_]; exact h
 have hMz : w.heap.size + 1 + 1 <= M := by rw [hM_]; exact hz2
 rw [<- hW3, <- hM_]
 have hRd := hRd.below hb3; have hR := hR.below hb3; have hE := hE.below hb3; have hm1 := hm1.below hb3; have hm2 := hm2.below hb3; have hm3 := hm3.below hb3
 have hbw := hbw.trans (hb3.mono hbw.size)
 clear hb3 hW3 hM_ hz2
 refine @region_flowR ⟨w.heap.size, w.heap.size + 1⟩ _ [(false, [(0, 1), (1, 1), (2, 5)]), (false, [(3, 4)])] _ _ _ _ _ (by kernel_rfl) ?_
 refine norm_K fun K hK => ?_
 change wpList _ _ _ [_, _, _] _ _
 have hbq : Below W3.heap.size W3 W3.drew := bwT
 have hRd := hRd.below hbq; have hR := hR.below hbq; have hE := hE.below hbq; have hm1 := hm1.below hbq; have hm2 := hm2.below hbq; have hm3 := hm3.below hbq; have hBd := hBd.below hbq; have hN := hN.below hbq
 have hbw := hbw.trans (hbq.mono hbw.size)
 clear hbq
 generalize W3.drew = wq at *
 have d0 := hBd.c0; have d1 := hBd.c1; have n0 := hN.c0; have n1_ := hN.c1; have n2_ := hN.c2; have hld := hBd; have hlN := hN
 have e0 := hRd.c0; have e1 := hRd.c1; have ef0 := hRd.f 0; have ef1 := hRd.f 1; have r0 := hR.c0; have r1 := hR.c1; have r2 := hR.c2; have rf0 := hR.f 0; have rf1 := hR.f 1; have rf2 := hR.f 2
 have hCF := chg_set_ (chg_set_ (Chg.refl (w := wq)) (lo := w.heap.size) (hi := w.heap.size + 1) (b := w.heap.size) (k := 0) (by omega) (by omega) (.int .i64 p)) (b := w.heap.size) (k := 1) (by omega) (by omega) (.slice av st.length cv)
 go_wp2_with fail
 first | (refine hK _ _ ⟨hCF, ?_⟩; clear hK K) | refine ⟨hCF, ?_⟩
 refine norm_K fun K hK => ?_
 change wpList _ _ _ [_] _ _
 go_wp2_with fail
 first | (refine hK _ _ ⟨⟨rfl, ?_⟩, ?_⟩; clear hK K) | refine ⟨⟨rfl, ?_⟩, ?_⟩
 ·repeat' (first | exact trivial | exact ⟨_, rfl, (show M < w.heap.size \/ w.heap.size + 1 <= M by omega), _, _, _, hld⟩ | exact ⟨_, rfl, (show M + 1 < w.heap.size \/ w.heap.size + 1 <= M + 1 by omega), _, _, _, hlN⟩ | refine And.intro ?_ ?_)
 go_wp2_with fail
 refine bodyPost_ret (v := .tuple #[.agg #[.int .i64 p, .slice av st.length cv], .agg #[.slice a1 n1 c1, .slice a2 n2 c2, .slice a3 n3 c3]]) (by simp [results, Tryz.results17, go_sem, e0, e1, r0, r1, r2]) rfl ?_
 exact drgt_fin hp1 hp2 hl5 hE hm1 hm2 hm3 hbw
set_option maxHeartbeats 16000000 in
set_option maxRecDepth 100000 in
theorem sdrawgt_c {v : Value} {n : Nat} {w : World} (hc : Co w w.heap.size v n) :
  Calls Tryz.prog 5 #[v] w fun e w' => DrGT w e w' := by
 obtain ⟨a, c, rfl, _⟩ := id hc
 go_enter Tryz.func5, Tryz.ntmps5
 go_wp2_with fail
 obtain ⟨W0, hW0⟩ : ∃ x, x = ((w.alloc (.cells #[.int .i64 0, .slice none 0 0] 26)).alloc (.cells #[.slice none 0 0, .slice none 0 0, .slice none 0 0] 29)) := ⟨_, rfl⟩
 have hb0 : Below w.heap.size w W0 := by rw [hW0]; exact bwT
 have hRd : Bd W0 w.heap.size (.int .i64 0) (.slice none 0 0) := by rw [hW0]; exact Bd.below (heap_alloc_new w _) bwT
 have hR : Bt W0 (w.heap.size + 1) (.slice none 0 0) (.slice none 0 0) (.slice none 0 0) := by
  have h := heap_alloc_new (w.alloc (.cells #[.int .i64 0, .slice none 0 0] 26)) (.cells #[.slice none 0 0, .slice none 0 0, .slice none 0 0] 29)
  rw [show (w.alloc (.cells #[.int .i64 0, .slice none 0 0] 26)).heap.size = w.heap.size + 1 by simp] at h
  rw [hW0]; exact h
 have hzz : w.heap.size + 1 + 1 <= W0.heap.size := by rw [hW0]; simp
 have hco : Co W0 W0.heap.size (.slice a n c) n := (hc.below hb0).wide (by omega)
 rw [<- hW0]; clear hW0
 refine (sdrawlt_c hco).mono ?_; rintro e w2 ⟨p, v, a_, b_, c_, st, rfl, hp1, hp2, hl5, hE, hm1, hm2, hm3, hb2⟩
 obtain ⟨av, cv, rfl⟩ := hE.shape_
 obtain ⟨a1, n1, c1, rfl⟩ := hm1.form; obtain ⟨a2, n2, c2, rfl⟩ := hm2.form; obtain ⟨a3, n3, c3, rfl⟩ := hm3.form
 have hRd := hRd.below hb2; have hR := hR.below hb2
 have hbw := hb0.trans (hb2.mono hb0.size)
 have hE := hE.more hzz; have hm1 := hm1.more hzz; have hm2 := hm2.more hzz; have hm3 := hm3.more hzz
 have e0 := hRd.c0; have e1 := hRd.c1; have ef0 := hRd.f 0; have ef1 := hRd.f 1; have r0 := hR.c0; have r1 := hR.c1; have r2 := hR.c2; have rf0 := hR.f 0; have rf1 := hR.f 1; have rf2 := hR.f 2
 go_wp2_with fail
 refine bodyPost_ret (v := .tuple #[.agg #[.int .i64 p, .slice av st.length cv], .agg #[.slice a1 n1 c1, .slice a2 n2 c2, .slice a3 n3 c3]]) (by simp [results, Tryz.results5, go_sem, e0, e1, r0, r1, r2]) rfl ?_
 exact drgt_fin hp1 hp2 hl5 hE hm1 hm2 hm3 hbw
set_option maxHeartbeats 16000000 in
set_option maxRecDepth 100000 in
theorem sdrawut_c {v : Value} {n : Nat} {w : World} (hc : Co w w.heap.size v n) :
  Calls Tryz.prog 10 #[v] w fun e w' => DrUT w e w' := by
 obtain ⟨a, c, rfl, _⟩ := id hc
 go_enter Tryz.func10, Tryz.ntmps10
 go_wp2_with fail
 obtain ⟨W0, hW0⟩ : ∃ x, x = (w.alloc (.cells #[.int .i64 0, .slice none 0 0] 26)) := ⟨_, rfl⟩
 have hb0 : Below w.heap.size w W0 := by rw [hW0]; exact bwT
 have hRd : Bd W0 w.heap.size (.int .i64 0) (.slice none 0 0) := by rw [hW0]; exact heap_alloc_new w _
 have hzz : w.heap.size + 1 <= W0.heap.size := by rw [hW0]; simp
 have hco : Co W0 W0.heap.size (.slice a n c) n := (hc.below hb0).wide (by omega)
 rw [<- hW0]; clear hW0
 refine (sfrom_c hco).mono ?_; rintro e w1 ⟨rfl, hs, hz1, hb1⟩
 have hRd := hRd.below hb1
 have hbw := hb0.trans (hb1.mono hb0.size)
 obtain ⟨q, hq_⟩ : ∃ q, q = W0.heap.size := ⟨_, rfl⟩
 rw [<- hq_] at hs ⊢
 have hq : w.heap.size + 1 <= q := by omega
 have hzq : q + 1 <= w1.heap.size := by omega
 clear hb0 hb1 hz1 hzz hq_ hco
 go_wp2_with fail
 refine (sdrawany_c hs (by decide) (by decide)).mono ?_; rintro e w2 ⟨p, v, st, rfl, hp1, hp2, hl5, ho, hs, hc2⟩
 have hE := ho.elr.more hzq
 obtain ⟨av, cv, rfl⟩ := hE.shape_
 have hRd := hRd.chg hc2 (.inl (by omega))
 have hbw : Below w.heap.size w w2 := below_bchg hbw hc2 (by omega) hbw.size
 have hzq := Nat.le_trans hzq hc2.size
 clear hc2 ho
 go_upto_region 3 with fail
 obtain ⟨W3, hW3⟩ : ∃ x, x = w2.alloc (.cells #[.int .i64 p, .slice av st.length cv] 26) := ⟨_, rfl⟩
 obtain ⟨M, hM_⟩ : ∃ M, M = w2.heap.size := ⟨_, rfl⟩
 have hb3 : Below w2.heap.size w2 W3 := by rw [hW3]; exact bwT
 have hBd : Bd W3 M (.int .i64 p) (.slice av st.length cv) := by rw [hW3, hM_]; exact heap_alloc_new w2 _
 have hMz : q + 1 <= M := by rw [hM_]; exact hzq
 rw [<- hW3, <- hM_]
 have hRd := hRd.below hb3; have hE := hE.below hb3; have hs := hs.below hb3; have hbw := hbw.trans (hb3.mono hbw.size)
 have hzz := Nat.le_trans hzq hb3.size
 clear hb3 hW3 hM_ hzq
 go_cut [16] (fun s wx => ∃ G : Bool, s = .bool G /\ (G = true -> isD p st = true) /\ Bd wx M (.int .i64 p) (.slice av st.length cv) /\ Bd wx w.heap.size (.int .i64 0) (.slice none 0 0) /\ ElR wx (q + 1) (.slice av st.length cv) st /\ Src wx q /\ Below w.heap.size w wx /\ q + 1 <= wx.heap.size)
 case first =>
  have d0 := hBd.c0; have d1 := hBd.c1
  have k := sisd_c (w := W3) (p := p) hE.1.sl (by omega)
  obtain ⟨bx, hbx⟩ : ∃ b, b = isD p st := ⟨_, rfl⟩
  rw [<- hbx] at k
  have HB := Lib.hid hbx; clear hbx
  go_wp2_with fail
  refine k.mono ?_; rintro e w4 ⟨rfl, hb4⟩
  have hBd := hBd.below hb4; have hRd := hRd.below hb4; have hE := hE.below hb4; have hs := hs.below hb4; have hbw := hbw.trans (hb4.mono hbw.size)
  have hzz := Nat.le_trans hzz hb4.size
  clear hb4 d0 d1 k
  cases bx with
  | false =>
   go_wp2_with fail
   go_meet
   case rel => exact ⟨false, rfl, (fun h => nomatch h), hBd, hRd, hE, hs, hbw, hzz⟩
  | true =>
   go_wp2_with fail
   refine (snext_c hs (by decide) (by decide)).mono ?_; rintro e w5 ⟨y, rfl, hy0_, hy1_, hs, hc5, hz5_⟩
   have hBd := hBd.chg hc5 (.inr (by omega)); have hRd := hRd.chg hc5 (.inl (by omega)); have hE := hE.chg hc5 (by omega); have hbw : Below w.heap.size w w5 := below_bchg hbw hc5 (by omega) hbw.size
   have hzz := Nat.le_trans hzz hc5.size
   clear hc5 hz5_ hy0_ hy1_
   go_wp2_with fail
   all_goals
    go_meet
    case rel => exact ⟨_, rfl, (fun _ => HB.out.symm), hBd, hRd, hE, hs, hbw, hzz⟩
 case' rest => skip
 clear hBd hRd hE hs hbw hzz
 obtain ⟨G, rfl, hG, hBd, hRd, hE, hs, hbw, hzz⟩ := hcut
 cases G with
 | true =>
  have hd4 := Dok4.of (hG rfl)
  have hsz := sz_le4 hd4
  clear hG
  go_upto_region 4 with fail
  refine @region_flowR ⟨w.heap.size, q + 1⟩ _ [(false, [(0, 1), (1, 0), (2, 1), (3, 5)]), (false, [(4, 4), (5, 0)])] _ _ _ _ _ (by kernel_rfl) ?_
  refine norm_K fun K hK => ?_
  change wpList _ _ _ [_, _, _, _] _ _
  have hbq : Below wc.heap.size wc wc.drew := bwT
  have hBd := hBd.below hbq; have hRd := hRd.below hbq; have hE := hE.below hbq; have hs := hs.below hbq; have hbw := hbw.trans (hbq.mono hbw.size)
  have hzz : q + 1 <= wc.drew.heap.size := hzz
  clear hbq
  generalize wc.drew = wq at *
  have hcq : Chg w.heap.size (q + 1) wq wq := Chg.refl
  have d0 := hBd.c0; have d1 := hBd.c1; have hld := hBd
  go_wp2_with fail
  refine (sdrawun_c hd4 hs hE).mono ?_; rintro e w6 ⟨x, xs, rfl, hev, hx, hs, hc6⟩
  obtain ⟨ax, cx, rfl⟩ := hx.shape_
  have hx := hx.more (B' := w.heap.size + 1) (by omega)
  have hcq := hcq.trans (hc6.wide (lo' := w.heap.size) (hi' := q + 1) (by omega) (Nat.le_refl _))
  have hE := hE.chg hc6 (by omega); have hRd := hRd.chg hc6 (.inl (by omega))
  have hbw : Below w.heap.size w w6 := below_bchg hbw hc6 (by omega) hbw.size
  clear hc6 d0 d1
  have e0 := hRd.c0; have e1 := hRd.c1; have ef0 := hRd.f 0; have ef1 := hRd.f 1
  go_wp2_with fail
  first | (refine hK _ _ ⟨hcq, ?_⟩; clear hK K) | refine ⟨hcq, ?_⟩
  refine norm_K fun K hK => ?_
  change wpList _ _ _ [_, _] _ _
  go_wp2_with fail
  first | (refine hK _ _ ⟨⟨rfl, ?_⟩, ?_⟩; clear hK K) | refine ⟨⟨rfl, ?_⟩, ?_⟩
  ·repeat' (first | exact trivial | exact ⟨_, rfl, (show M < w.heap.size \/ q + 1 <= M by omega), _, _, _, hld⟩ | refine And.intro ?_ ?_)
  go_wp2_with fail
  refine bodyPost_ret (v := .tuple #[.agg #[.int .i64 p, .slice av st.length cv], .slice ax xs.length cx]) (by simp [results, Tryz.results10, go_sem, e0, e1]) rfl ?_
  exact ⟨p, _, _, st, xs, rfl, hp1, hp2, hl5, (((hE.more (B' := w.heap.size + 1) (by omega)).set_ (p := ⟨w.heap.size, 0, none⟩) (Nat.lt_succ_self _) _).set_ (p := ⟨w.heap.size, 1, none⟩) (Nat.lt_succ_self _) _).more (Nat.le_succ _), ((hx.set_ (p := ⟨w.heap.size, 0, none⟩) (Nat.lt_succ_self _) _).set_ (p := ⟨w.heap.size, 1, none⟩) (Nat.lt_succ_self _) _).more (Nat.le_succ _), by rw [hev.1]; omega, bwS (bwS hbw (Nat.le_refl _) _) (Nat.le_refl _) _⟩
 | false =>
  clear hG
  go_upto_region 5 with fail
  refine @region_flowR ⟨w.heap.size, q + 1⟩ _ [(false, [(0, 1), (1, 0), (2, 1), (3, 5)]), (false, [(4, 4), (5, 0)])] _ _ _ _ _ (by kernel_rfl) ?_
  refine norm_K fun K hK => ?_
  change wpList _ _ _ [_, _, _, _] _ _
  have hbq : Below wc.heap.size wc wc.drew := bwT
  have hBd := hBd.below hbq; have hRd := hRd.below hbq; have hE := hE.below hbq; have hs := hs.below hbq; have hbw := hbw.trans (hbq.mono hbw.size)
  have hzz : q + 1 <= wc.drew.heap.size := hzz
  clear hbq
  generalize wc.drew = wq at *
  have hcq : Chg w.heap.size (q + 1) wq wq := Chg.refl
  have d0 := hBd.c0; have d1 := hBd.c1; have hld := hBd
  go_wp2_with fail
  refine (sdrawel_c hs hp1 hp2 hl5).mono ?_; rintro e w6 ⟨x, xs, rfl, hxl, hx, hs, hc6⟩
  obtain ⟨ax, cx, rfl⟩ := hx.shape_
  have hx := hx.more (B' := w.heap.size + 1) (by omega)
  have hcq := hcq.trans (hc6.wide (lo' := w.heap.size) (hi' := q + 1) (by omega) (Nat.le_refl _))
  have hE := hE.chg hc6 (by omega); have hRd := hRd.chg hc6 (.inl (by omega))
  have hbw : Below w.heap.size w w6 := below_bchg hbw hc6 (by omega) hbw.size
  clear hc6 d0 d1
  have e0 := hRd.c0; have e1 := hRd.c1; have ef0 := hRd.f 0; have ef1 := hRd.f 1
  go_wp2_with fail
  first | (refine hK _ _ ⟨hcq, ?_⟩; clear hK K) | refine ⟨hcq, ?_⟩
  refine norm_K fun K hK => ?_
  change wpList _ _ _ [_, _] _ _
  go_wp2_with fail
  first | (refine hK _ _ ⟨⟨rfl, ?_⟩, ?_⟩; clear hK K) | refine ⟨⟨rfl, ?_⟩, ?_⟩
  ·repeat' (first | exact trivial | exact ⟨_, rfl, (show M < w.heap.size \/ q + 1 <= M by omega), _, _, _, hld⟩ | refine And.intro ?_ ?_)
  go_wp2_with fail
  refine bodyPost_ret (v := .tuple #[.agg #[.int .i64 p, .slice av st.length cv], .slice ax xs.length cx]) (by simp [results, Tryz.results10, go_sem, e0, e1]) rfl ?_
  exact ⟨p, _, _, st, xs, rfl, hp1, hp2, hl5, (((hE.more (B' := w.heap.size + 1) (by omega)).set_ (p := ⟨w.heap.size, 0, none⟩) (Nat.lt_succ_self _) _).set_ (p := ⟨w.heap.size, 1, none⟩) (Nat.lt_succ_self _) _).more (Nat.le_succ _), ((hx.set_ (p := ⟨w.heap.size, 0, none⟩) (Nat.lt_succ_self _) _).set_ (p := ⟨w.heap.size, 1, none⟩) (Nat.lt_succ_self _) _).more (Nat.le_succ _), by omega, bwS (bwS hbw (Nat.le_refl _) _) (Nat.le_refl _) _⟩

theorem sumL_bd {M : List (List Int)} {k : Nat} (h : ∀ r ∈ M, r.length <= k) : sumL M <= M.length * k := by
 induction M with
 | nil => simp [sumL]
 | cons r M ih =>
  have h1 := h r (List.mem_cons_self ..)
  have h2 := ih fun x hx => h x (List.mem_cons_of_mem _ hx)
  have e : sumL (r :: M) = r.length + sumL M := by simp [sumL]
  rw [e, List.length_cons, Nat.add_mul]
  omega
theorem mat_msz {p : Int} {st : List Int} {M : List (List Int)} (hd : Dok p st) (h : matB p (sz st.length) M = true) : Msz M := by
 obtain ⟨h1, h2⟩ := matB_iff.1 h
 have h8 := (sz_le hd).2
 have hs := sumL_bd (M := M) (k := 8) fun r hr => by have := (h2 r hr).1; omega
 exact ⟨by omega, fun r hr => by have := (h2 r hr).1; omega, (by have : M.length * 8 <= 64 := (by omega); omega)⟩
theorem Ml.one {w : World} {m : Value} {M : List (List Int)} {k : Nat} (h : Re w m M) (hk : w.heap.size = k) : Ml (w.alloc (.cells #[m] 27)) (.slice (some ⟨k, 0, none⟩) 1 1) [M] := by
 subst hk
 refine ⟨w.heap.size, 1, rfl, fun j hj => ?_⟩
 obtain rfl : j = 0 := by simpa using hj
 exact ⟨m, by simp [go_sem], h.below bwT⟩
theorem Re.oneL {w : World} {x : Value} {xs : List Int} {k : Nat} (h : El w x xs) (hk : w.heap.size = k) : Re (w.alloc (.cells #[x] 24)) (.slice (some ⟨k, 0, none⟩) 1 1) [xs] := by
 subst hk
 refine ⟨_, 1, rfl, by simp, by decide, .inr ⟨w.heap.size, 0, rfl, fun j hj => ?_⟩⟩
 obtain rfl : j = 0 := by simpa using hj
 exact ⟨x, by simp [go_sem], h.below bwT⟩
theorem chkok_c {p : Int} {x l m : Value} {st : List Int} {xss : List (List Int)} {Ms : List (List (List Int))} {w : World} (hd : Dok p st) (hx : El w x st) (hl : Re w l xss) (hv : ∀ xs ∈ xss, Ev p (sz st.length) xs) (hn : xss.length <= 1000)
  (hm : Ml w m Ms) (hm1 : Ms.length <= 1000) (hM : ∀ M ∈ Ms, matB p (sz st.length) M = true) :
  Calls Tryz.prog 39 #[.agg #[.int .i64 p, x], l, m] w fun e w' => e = .returned (.int .i64 0) /\ Below w.heap.size w w' := by
 obtain ⟨a, c, rfl, _⟩ := id hx.op
 obtain ⟨a2, c2, rfl, _⟩ := id hl
 obtain ⟨b3, c3, rfl, _⟩ := id hm
 have hst : st.length <= 1048576 := by have := hd.hl; omega
 have h8 := (sz_le hd).2
 have hl3 := hd.hl
 have hw : ∀ xs ∈ xss, xs.length <= 1048576 := fun xs h => by have := (hv xs h).1; omega
 have hel := fun W h1 h2 => chkel_c (w := W) (p := p) (x := .slice a st.length c) (l := .slice a2 xss.length c2) h1 h2 hst (by omega) hw
 have hE : chkE p st xss = 0 := chkE_ok hd.is (List.all_eq_true.2 fun xs h => isE_iff.2 (hv xs h))
 simp only [hE] at hel
 have hcon := fun W q h0 h1 h2 h3 => conm_c (w := W) (q := q) (p := p) (x := .slice a st.length c) (l := .slice (some ⟨b3, 0, none⟩) Ms.length c3) h0 h1 hd h2 h3 (by omega) (fun M h => mat_msz hd (hM M h))
 have hA : Ms.all (matB p (sz st.length)) = true := List.all_eq_true.2 hM
 simp only [hA, Bool.not_true] at hcon
 have his := hd.is
 clear hE hA hM hv hw
 go_enter Tryz.func39, Tryz.ntmps39
 have hb0 : Below w.heap.size w (w.alloc (.cells #[.int .i64 p, .slice a st.length c] 26)) := bwT
 have hx := hx.below hb0; have hl := hl.below hb0; have hm := hm.below hb0
 have d0 : (w.alloc (.cells #[.int .i64 p, .slice a st.length c] 26)).cell? ⟨w.heap.size, 0, none⟩ = some (.int .i64 p) := by simp [go_sem]
 have d1 : (w.alloc (.cells #[.int .i64 p, .slice a st.length c] 26)).cell? ⟨w.heap.size, 1, none⟩ = some (.slice a st.length c) := by simp [go_sem]
 go_wp2_with fail
 refine (isdbl_c hx.sl hst).mono ?_; rintro e w1 ⟨rfl, hb1⟩
 have hx := hx.below hb1; have hl := hl.below hb1; have hm := hm.below hb1; have d0 := kept hb1 d0; have d1 := kept hb1 d1
 rw [his]
 go_wp2_with fail
 refine (hel _ hx hl).mono ?_; rintro e w2 ⟨rfl, hb2⟩
 have hx := hx.below hb2; have hl := hl.below hb2; have hm := hm.below hb2; have d0 := kept hb2 d0; have d1 := kept hb2 d1
 go_wp2_with fail
 refine (hcon _ _ d0 d1 hx hm).mono ?_; rintro e w9 ⟨rfl, hb9⟩
 go_wp2_with fail
 go_ret
 exact ⟨rfl, bwT⟩
theorem chkokm_c {p : Int} {x m : Value} {st : List Int} {Ms : List (List (List Int))} {w : World} (hd : Dok p st) (hx : El w x st) (hm : Ml w m Ms) (hm1 : Ms.length <= 1000) (hM : ∀ M ∈ Ms, matB p (sz st.length) M = true) :
  Calls Tryz.prog 39 #[.agg #[.int .i64 p, x], .slice none 0 0, m] w fun e w' => e = .returned (.int .i64 0) /\ Below w.heap.size w w' :=
 chkok_c (xss := []) hd hx (Re.nil w) (by simp) (by simp) hm hm1 hM
section
variable {p : Int} {s m x y : Value} {st xs ys : List Int} {M : List (List Int)} {w : World}
set_option maxHeartbeats 2000000 in
set_option maxRecDepth 100000 in
theorem keep1_c (hd : Dok p st) (hs : El w s st) (hr : Re w m M) (hM : matB p (sz st.length) M = true) :
  Calls Tryz.prog 16 #[.agg #[.int .i64 p, s], m] w fun e w' => e = .returned (.tuple #[.bool (isoK p (diagF p st) M), .int .i64 0]) /\ Below w.heap.size w w' := by
 obtain ⟨a0, c0, rfl, _⟩ := id hs.op
 have hp := hd.hp.lo; have hp2 := hd.hp.hi; have h8 := (sz_le hd).2; have hl3 := hd.hl
 obtain ⟨a1, c1, rfl, _⟩ := id hr
 have HM := Lib.hid hM
 have HM1 := Lib.hid (show ∀ N ∈ [M], matB p (sz st.length) N = true from fun N h => by rw [List.mem_singleton.1 h]; exact hM)
 clear hM
 go_enter Tryz.func16, Tryz.ntmps16
 have hb0 : Below w.heap.size w (w.alloc (.cells #[.int .i64 p, .slice a0 st.length c0] 26)) := bwT
 have hs := hs.below hb0; have hr := hr.below hb0
 have d0 : (w.alloc (.cells #[.int .i64 p, .slice a0 st.length c0] 26)).cell? ⟨w.heap.size, 0, none⟩ = some (.int .i64 p) := by simp [go_sem]
 have d1 : (w.alloc (.cells #[.int .i64 p, .slice a0 st.length c0] 26)).cell? ⟨w.heap.size, 1, none⟩ = some (.slice a0 st.length c0) := by simp [go_sem]
 have hm1 := Ml.one (k := w.heap.size + 1) hr (by simp)
 have hb1 : Below (w.alloc (.cells #[.int .i64 p, .slice a0 st.length c0] 26)).heap.size (w.alloc (.cells #[.int .i64 p, .slice a0 st.length c0] 26)) ((w.alloc (.cells #[.int .i64 p, .slice a0 st.length c0] 26)).alloc (.cells #[.slice a1 M.length c1] 27)) := bwT
 have hs := hs.below hb1; have hr := hr.below hb1; have d0 := kept hb1 d0; have d1 := kept hb1 d1
 have cm0 : ((w.alloc (.cells #[.int .i64 p, .slice a0 st.length c0] 26)).alloc (.cells #[.slice a1 M.length c1] 27)).cell? ⟨w.heap.size + 1, 0, none⟩ = some (.slice a1 M.length c1) := by simp [go_sem]
 go_wp2_with fail
 refine (chkokm_c hd hs hm1 (by simp) HM1.out).mono ?_; rintro e w2 ⟨rfl, hb2⟩
 have hs := hs.below hb2; have hr := hr.below hb2; have d0 := kept hb2 d0; have d1 := kept hb2 d1; have cm0 := kept hb2 cm0; have hm1 := hm1.below hb2
 go_wp2_with fail
 refine (keeps_c hd hs hr HM.out).mono ?_; rintro e w3 ⟨rfl, hb3⟩
 have hs := hs.below hb3; have hr := hr.below hb3; have d0 := kept hb3 d0; have d1 := kept hb3 d1; have cm0 := kept hb3 cm0; have hm1 := hm1.below hb3
 go_wp2_with fail
 go_ret2
 exact ⟨rfl, bwT⟩
end
theorem LsR.one {w : World} {B : Nat} {z : Value} {xs : List Int} (hz : ElR w B z xs) (hB : B <= w.heap.size) : LsR (w.alloc (.cells #[z] 24)) B (.slice (some ⟨w.heap.size, 0, none⟩) 1 1) [z] [xs] := by
 have hb : Below w.heap.size w (w.alloc (.cells #[z] 24)) := bwT
 refine ⟨World.ownsRow_lit (base := B) (e := 24) (size := 1) w #[z] 1 hB (by decide) rfl, rfl, fun j a b => ?_, fun y hy b off sp n c e => ?_⟩
 ·obtain rfl : j = 0 := by simpa using a
  exact hz.below hb
 ·rw [List.mem_singleton.1 hy] at e
  have := (hz.2 _ _ _ _ _ e).2
  intro e2
  simp [Value.ownBlock] at e2
  omega
theorem ReR.shapeA {w : World} {B : Nat} {v : Value} {xss : List (List Int)} (h : ReR w B v xss) : ∃ a c, v = .slice a xss.length c := by
 obtain ⟨a, c, rfl, _⟩ := h
 exact ⟨_, _, rfl⟩
theorem map_take {α β : Type} {f : α -> β} {C : List α} {j : Nat} (hj : j < C.length) : (C.take (j + 1)).map f = (C.take j).map f ++ [f C[j]] := by
 rw [List.take_succ_eq_append_getElem hj, List.map_append]; rfl
end Go.Proofs.YteaaepbnoiecoaaGreat
