import Derived.Deep.CutBlock
import Derived.Test.YtilgbekffbphgaaGreatJbg
import Derived.Test.YtilgbekffbphgaaGreatTreeR
import Derived.Test.YtilgbekffbphgaaGreatJax
namespace Go.Proofs.YtilgbekffbphgaaGreat
open Go.RowKit
def DrI (w : World) (q n : Nat) (e : Ending) (w' : World) : Prop := ∃ (v : Value) (us : List Value) (xss : List (List Int)), e = .returned v /\ xss.length = n /\ (∀ xs ∈ xss, xs.length <= 16) /\ LsR w' w.heap.size v us xss /\ Src w' q /\ Chg q (q + 1) w w'
def DrX (W : World) (q S : Nat) (wx : World) : Prop := ∃ ys : List Int, ys.length = S /\ OwnI wx W.heap.size W.heap.size S S ys /\ Src wx q /\ Chg q (q + 1) W wx
theorem drx_fin {W w' : World} {q S i : Nat} {ys : List Int} (hl : ys.length = S) (hx : OwnI w' W.heap.size W.heap.size S S ys) (hs : Src w' q) (hc : Chg q (q + 1) W w') (hq : q < W.heap.size) (z : Int) : DrX W q S (w'.setCell ⟨W.heap.size, i, none⟩ (.int .i64 z)) :=
 ⟨ys.set i z, by simp [hl], hx.set z, hs.bl (B := W.heap.size) ((Below.refl _ _).setCell (by exact Nat.le_refl W.heap.size) _) hq, hc.bl ((Below.refl _ _).setCell (by exact Nat.le_refl W.heap.size) _)⟩
set_option maxHeartbeats 16000000 in
set_option maxRecDepth 100000 in
theorem sdrawim0_c {q c : Nat} {p : Int} {a : Option Addr} {w : World} (hs : Src w q) (_ : 0 <= c) (_ : c <= 9223372036854775807) (_ : 0 <= p) (_ : p <= 17) :
  Calls Tryz.prog 42 #[.pointer (some ⟨q, 0, none⟩), .agg #[.int .i64 p, .slice a 0 c]] w fun e w' => DrI w q 0 e w' := by
 have hq := hs.lt
 have HLT := Lib.hid (show w.heap.size < q \/ q + 1 <= w.heap.size by omega)
 go_enter Tryz.func42, Tryz.ntmps42
 go_wp2_with fail
 obtain ⟨W1, hW1⟩ : ∃ x, x = ((w.alloc (.cells #[.int .i64 p, .slice a 0 c] 26)).alloc (.cells #[] 24)) := ⟨_, rfl⟩
 have hb1 : Below w.heap.size w W1 := by rw [hW1]; exact bwT
 have hz1 : W1.heap.size = w.heap.size + 1 + 1 := by rw [hW1]; simp
 have hl : LsR W1 (w.heap.size + 1) (.slice (some ⟨w.heap.size + 1, 0, none⟩) 0 0) [] [] := by
  rw [hW1]
  have h := LsR.new (w := (w.alloc (.cells #[.int .i64 p, .slice a 0 c] 26))) (B := w.heap.size + 1) (by simp)
  simpa using h
 have hd : Bd W1 w.heap.size (.int .i64 p) (.slice a 0 c) := by rw [hW1]; exact Bd.below (heap_alloc_new w _) bwT
 rw [<- hW1]; clear hW1
 have e0 := hd.c0; have e1 := hd.c1
 go_wp2_with fail
 refine (ssize_c (by decide)).mono ?_; rintro e w2 ⟨rfl, hb2⟩
 rw [show ((sz 0 : Nat) : Int) = 1 from rfl]
 have hs := (hs.bl hb1 hq).below hb2; have hl := hl.below hb2; have hd := hd.below hb2
 have hcw : Chg q (q + 1) w w2 := (Chg.refl.bl hb1).bl (hb2.mono (by omega))
 have hzz : w.heap.size + 1 <= w2.heap.size := by have := hb2.size; omega
 clear hb1 hz1 hb2 e0 e1
 go_wp2_with fail
 go_loopw [5, 7] (fun ov iv wr => ∃ (k : Nat) (us : List Value) (xss : List (List Int)), k <= 0 /\ iv = .int .i64 k /\ xss.length = k /\ (∀ xs ∈ xss, xs.length <= 16) /\ LsR wr (w.heap.size + 1) ov us xss /\ Bd wr w.heap.size (.int .i64 p) (.slice a 0 c) /\ Src wr q /\ Chg q (q + 1) w wr /\ w.heap.size + 1 <= wr.heap.size) (fun _ iv _ => 0 - (intOf iv).toNat)
 case atStart => exact ⟨0, _, [], by omega, rfl, rfl, by simp, hl, hd, hs, hcw, hzz⟩
 case round =>
  clear hs hl hd hcw hzz
  obtain ⟨k, us, xss, hk, rfl, hXl, h16, hl, hd, hs, hcw, hzz⟩ := hrel
  obtain ⟨ab, cb, rfl⟩ := hl.form
  have HXL := Lib.hid (And.intro hXl hl.len); clear hXl
  have e0 := hd.c0; have e1 := hd.c1
  by_cases hlt : k < 0
  ·omega
  ·obtain rfl : k = 0 := by omega
   go_wp2_with fail
   go_ret
   exact ⟨_, us, xss, rfl, HXL.out.1, h16, hl.more (by omega), hs, hcw⟩
set_option maxHeartbeats 16000000 in
set_option maxRecDepth 100000 in
theorem sdrawim1_c {q c : Nat} {p : Int} {a : Option Addr} {w : World} (hs : Src w q) (hcap : 1 <= c) (hcb : c <= 9223372036854775807) (hp0 : 0 <= p) (hp1 : p <= 17) :
  Calls Tryz.prog 42 #[.pointer (some ⟨q, 0, none⟩), .agg #[.int .i64 p, .slice a 1 c]] w fun e w' => DrI w q 1 e w' := by
 have hq := hs.lt
 have HLT := Lib.hid (show w.heap.size < q \/ q + 1 <= w.heap.size by omega)
 go_enter Tryz.func42, Tryz.ntmps42
 go_wp2_with fail
 obtain ⟨W1, hW1⟩ : ∃ x, x = ((w.alloc (.cells #[.int .i64 p, .slice a 1 c] 26)).alloc (.cells #[] 24)) := ⟨_, rfl⟩
 have hb1 : Below w.heap.size w W1 := by rw [hW1]; exact bwT
 have hz1 : W1.heap.size = w.heap.size + 1 + 1 := by rw [hW1]; simp
 have hl : LsR W1 (w.heap.size + 1) (.slice (some ⟨w.heap.size + 1, 0, none⟩) 0 0) [] [] := by
  rw [hW1]
  have h := LsR.new (w := (w.alloc (.cells #[.int .i64 p, .slice a 1 c] 26))) (B := w.heap.size + 1) (by simp)
  simpa using h
 have hd : Bd W1 w.heap.size (.int .i64 p) (.slice a 1 c) := by rw [hW1]; exact Bd.below (heap_alloc_new w _) bwT
 rw [<- hW1]; clear hW1
 have e0 := hd.c0; have e1 := hd.c1
 go_wp2_with fail
 refine (ssize_c (by decide)).mono ?_; rintro e w2 ⟨rfl, hb2⟩
 rw [show ((sz 1 : Nat) : Int) = 2 from rfl]
 have hs := (hs.bl hb1 hq).below hb2; have hl := hl.below hb2; have hd := hd.below hb2
 have hcw : Chg q (q + 1) w w2 := (Chg.refl.bl hb1).bl (hb2.mono (by omega))
 have hzz : w.heap.size + 1 <= w2.heap.size := by have := hb2.size; omega
 clear hb1 hz1 hb2 e0 e1
 go_wp2_with fail
 go_loopw [5, 7] (fun ov iv wr => ∃ (k : Nat) (us : List Value) (xss : List (List Int)), k <= 1 /\ iv = .int .i64 k /\ xss.length = k /\ (∀ xs ∈ xss, xs.length <= 16) /\ LsR wr (w.heap.size + 1) ov us xss /\ Bd wr w.heap.size (.int .i64 p) (.slice a 1 c) /\ Src wr q /\ Chg q (q + 1) w wr /\ w.heap.size + 1 <= wr.heap.size) (fun _ iv _ => 1 - (intOf iv).toNat)
 case atStart => exact ⟨0, _, [], by omega, rfl, rfl, by simp, hl, hd, hs, hcw, hzz⟩
 case round =>
  clear hs hl hd hcw hzz
  obtain ⟨k, us, xss, hk, rfl, hXl, h16, hl, hd, hs, hcw, hzz⟩ := hrel
  obtain ⟨ab, cb, rfl⟩ := hl.form
  have HXL := Lib.hid (And.intro hXl hl.len); clear hXl
  have e0 := hd.c0; have e1 := hd.c1
  by_cases hlt : k < 1
  ·have hlt1 : (k : Int) < 1 := by omega
   have hlt2 : (k : Int) < 4 := by omega
   have hx := made_own (W := wr) (n := 2) (by decide)
   have hbx : Below wr.heap.size wr (wr.alloc (.cells (madeCells #[Value.int .i64 0] 2) 2)) := bwT
   have hzx : wr.heap.size + 1 <= (wr.alloc (.cells (madeCells #[Value.int .i64 0] 2) 2)).heap.size := by simp
   have hs7 := hs.below hbx; have hc7 : Chg q (q + 1) wr (wr.alloc (.cells (madeCells #[Value.int .i64 0] 2) 2)) := Chg.refl.bl hbx
   have hqr : q + 1 <= wr.heap.size := by omega
   have hmk : ∀ W : World, Sem.run Tryz.prog (Instr.makeSlice 24 (.int .i64 2) (.int .i64 2)) W = _ := fun W => run_make_row' (P := Tryz.prog) 24 2 (.int .i64 0) 8 Tryz.underlying24 infoI rfl .i64 .i64 2 (by omega) (by omega) W
   go_wp2_with fail
   clear hmk
   generalize wr.alloc (.cells (madeCells #[Value.int .i64 0] 2) 2) = W7 at *
   refine (snext_c hs7 (by decide) (by decide)).mono ?_; rintro e w3 ⟨y, rfl, hy0, hy1, hs3, hc3, hz3_⟩
   have hx := hx.chg hc3 (.inr (by omega)); have hc := hc7.trans hc3; have hz3 : wr.heap.size + 1 <= w3.heap.size := by omega
   have hd3 := hd.chg hc (.inr (by omega))
   clear hc3 hc7 hs7 hbx hzx hz3_
   go_upto_block 2 with fail
   go_cut [] (fun wx => DrX wr q 2 wx)
   case first =>
    have hld := hd3; have e0 := hd3.c0; have e1 := hd3.c1
    have hs := hs3; have hzz := hz3
    clear hs3 hz3
    by_cases hy : y = 0
    case pos =>
     subst hy
     clear hy1
     obtain rfl : k = 0 := by omega
     go_wp2_with fail
     have hb_ : Below w3.heap.size w3 (w3.alloc (.cells #[.int .i64 1, .int .i64 (p - 1)] 2)) := bwT
     have hb : OwnI (w3.alloc (.cells #[.int .i64 1, .int .i64 (p - 1)] 2)) w3.heap.size w3.heap.size 2 2 ([1, p - 1] : List Int) := OwnI.lit (Nat.le_refl _) [1, p - 1] (by simp)
     obtain ⟨w4, hW_⟩ : ∃ x, x = (w3.alloc (.cells #[.int .i64 1, .int .i64 (p - 1)] 2)) := ⟨_, rfl⟩
     rw [<- hW_] at hb_ hb ⊢; clear hW_
     have hs := hs.below hb_; have hc := hc.bl (hb_.mono hc.size); have hx := hx.below hb_
     refine (spick_c (g := w3.heap.size) (cap := 2) hs hb (by omega) (by simp) (by simp)).mono ?_; rintro e w5 ⟨z, rfl, _, hs, hc_, hz_⟩
     have hc := hc.trans hc_; have hx := hx.chg hc_ (.inr (by omega))
     clear hc_ hz_ hb hb_
     have oh1 := hx.hold (i := 1) (by decide); have of1 := hx.free 1
     go_wp2_with fail
     go_meet
     case rel => exact drx_fin (by simp) hx hs hc (by omega) z
    have hyb : (y == 0) = false := by simpa using hy
    by_cases hy1_ : y = 1
    case pos =>
     subst hy1_
     clear hy1
     go_upto_region 12 with fail
     refine @region_tz ⟨q, q + 1⟩ _ (.pre [(0, 0), (1, 0), (2, 0), (3, 1), (4, 0), (9, 0), (10, 0), (11, 1), (12, 0)] (.two 5 5 (.two 6 5 (.lin [(false, [(7, 0), (8, 0), (13, 5)]), (false, [(14, 4), (15, 0), (16, 4)])]) 13 5 (.lin [(false, [(6, 5)]), (false, [(7, 0), (8, 0), (14, 4), (15, 0), (16, 4)])])) 13 5 (.lin [(false, [(5, 5)]), (false, [(6, 5)]), (false, [(7, 0), (8, 0), (14, 4), (15, 0), (16, 4)])]))) _ _ _ _ _ (by kernel_rfl) ?_
     have hcq : Chg q (q + 1) w3.drew w3.drew := Chg.refl
     have hbq : Below w3.heap.size w3 w3.drew := bwT
     have hs := hs.below hbq; have hx := hx.below hbq; have hc := hc.bl (hbq.mono hc.size); have hzz : wr.heap.size + 1 <= w3.drew.heap.size := hzz; have hld := hld.below hbq
     clear hbq
     generalize w3.drew = wq at *
     have e0 := hld.c0; have e1 := hld.c1
     refine norm_K fun K hK => ?_
     change wpList _ _ _ [_, _, _, _, _, _, _, _, _] _ _
     go_wp2_with fail
     first | (refine hK _ _ ⟨⟨rfl, ?_⟩, ?_⟩; clear hK K) | refine ⟨⟨rfl, ?_⟩, ?_⟩
     ·repeat' (first | exact trivial | exact ⟨_, rfl, HLT.out, _, _, _, hld⟩ | refine And.intro ?_ ?_)
     refine ⟨?_, ?_⟩
     ·skip
      refine norm_K fun K hK => ?_
      change wpList _ _ _ [_] _ _
      go_wp2_with fail
      first | (refine hK _ _ ⟨hcq, ?_⟩; clear hK K) | refine ⟨hcq, ?_⟩
      refine ⟨?_, ?_⟩
      ·skip
       refine norm_K fun K hK => ?_
       change wpList _ _ _ [_] _ _
       go_wp2_with fail
       refine (snext_c hs (by decide) (by decide)).mono ?_; rintro e v1 ⟨y2, rfl, hy20, hy21, hs, hc_, hz_⟩
       have hc := hc.trans hc_; have hcq := hcq.trans hc_; have hx := hx.chg hc_ (.inr (by omega)); have hzz := Nat.le_trans hzz hc_.size
       clear hc_ hz_
       obtain rfl : y2 = 0 := by omega
       go_wp2_with fail
       first | (refine hK _ _ ⟨hcq, ?_⟩; clear hK K) | refine ⟨hcq, ?_⟩
       refine norm_K fun K hK => ?_
       change wpList _ _ _ [_, _, _] _ _
       go_wp2_with fail
       have hb_ : Below v1.heap.size v1 (v1.alloc (.cells #[.int .i64 1, .int .i64 (p - 1)] 2)) := bwT
       have hb : OwnI (v1.alloc (.cells #[.int .i64 1, .int .i64 (p - 1)] 2)) v1.heap.size v1.heap.size 2 2 ([1, p - 1] : List Int) := OwnI.lit (Nat.le_refl _) [1, p - 1] (by simp)
       obtain ⟨g_, hg_⟩ : ∃ g_, g_ = v1.heap.size := ⟨_, rfl⟩
       have hgl : wr.heap.size + 1 <= g_ := by omega
       obtain ⟨v2, hW_⟩ : ∃ x, x = (v1.alloc (.cells #[.int .i64 1, .int .i64 (p - 1)] 2)) := ⟨_, rfl⟩
       rw [<- hg_] at hb ⊢; rw [<- hW_] at hb_ hb ⊢; clear hW_ hg_
       have hs := hs.below hb_; have hc := hc.bl (hb_.mono hc.size); have hcq := hcq.bl (hb_.mono hcq.size); have hx := hx.below hb_; have hzz := Nat.le_trans hzz hb_.size
       clear hb_
       go_wp2_with fail
       first | (refine hK _ _ ⟨hcq, ?_⟩; clear hK K) | refine ⟨hcq, ?_⟩
       refine norm_K fun K hK => ?_
       change wpList _ _ _ [_, _, _] _ _
       go_wp2_with fail
       refine (spick_c (g := g_) (cap := 2) hs hb (by omega) (by simp) (by simp)).mono ?_; rintro e v3 ⟨z, rfl, _, hs, hc_, hz_⟩
       have hc := hc.trans hc_; have hcq := hcq.trans hc_; have hx := hx.chg hc_ (.inr (by omega)); have hzz := Nat.le_trans hzz hc_.size
       clear hc_ hz_ hb
       have oh1 := hx.hold (i := 1) (by decide); have of1 := hx.free 1
       go_wp2_with fail
       first | (refine hK _ _ ⟨⟨rfl, ?_⟩, ?_⟩; clear hK K) | refine ⟨⟨rfl, ?_⟩, ?_⟩
       ·repeat' (first | exact trivial | exact ⟨_, rfl, HLT.out, _, _, _, hld⟩ | refine And.intro ?_ ?_)
       go_wp2_with fail
       go_meet
       case rel => exact drx_fin (by simp) hx hs hc (by omega) z
      ·skip
       refine norm_K fun K hK => ?_
       change wpList _ _ _ [_] _ _
       go_wp2_with fail
       have hb_ : Below wq.heap.size wq (wq.alloc (.cells #[.int .i64 1, .int .i64 (p - 1)] 2)) := bwT
       have hb : OwnI (wq.alloc (.cells #[.int .i64 1, .int .i64 (p - 1)] 2)) wq.heap.size wq.heap.size 2 2 ([1, p - 1] : List Int) := OwnI.lit (Nat.le_refl _) [1, p - 1] (by simp)
       obtain ⟨g_, hg_⟩ : ∃ g_, g_ = wq.heap.size := ⟨_, rfl⟩
       have hgl : wr.heap.size + 1 <= g_ := by omega
       obtain ⟨v4, hW_⟩ : ∃ x, x = (wq.alloc (.cells #[.int .i64 1, .int .i64 (p - 1)] 2)) := ⟨_, rfl⟩
       rw [<- hg_] at hb ⊢; rw [<- hW_] at hb_ hb ⊢; clear hW_ hg_
       have hs := hs.below hb_; have hc := hc.bl (hb_.mono hc.size); have hcq := hcq.bl (hb_.mono hcq.size); have hx := hx.below hb_; have hzz := Nat.le_trans hzz hb_.size
       clear hb_
       go_wp2_with fail
       first | (refine hK _ _ ⟨hcq, ?_⟩; clear hK K) | refine ⟨hcq, ?_⟩
       refine norm_K fun K hK => ?_
       change wpList _ _ _ [_] _ _
       go_wp2_with fail
       refine (snext_c hs (by decide) (by decide)).mono ?_; rintro e v5 ⟨y2, rfl, hy20, hy21, hs, hc_, hz_⟩
       have hc := hc.trans hc_; have hcq := hcq.trans hc_; have hx := hx.chg hc_ (.inr (by omega)); have hzz := Nat.le_trans hzz hc_.size
       have hb := hb.chg hc_ (.inr (by omega))
       clear hc_ hz_
       obtain rfl : y2 = 0 := by omega
       go_wp2_with fail
       first | (refine hK _ _ ⟨hcq, ?_⟩; clear hK K) | refine ⟨hcq, ?_⟩
       refine norm_K fun K hK => ?_
       change wpList _ _ _ [_, _, _, _, _] _ _
       go_wp2_with fail
       refine (spick_c (g := g_) (cap := 2) hs hb (by omega) (by simp) (by simp)).mono ?_; rintro e v6 ⟨z, rfl, _, hs, hc_, hz_⟩
       have hc := hc.trans hc_; have hcq := hcq.trans hc_; have hx := hx.chg hc_ (.inr (by omega)); have hzz := Nat.le_trans hzz hc_.size
       clear hc_ hz_ hb
       have oh1 := hx.hold (i := 1) (by decide); have of1 := hx.free 1
       go_wp2_with fail
       first | (refine hK _ _ ⟨⟨rfl, ?_⟩, ?_⟩; clear hK K) | refine ⟨⟨rfl, ?_⟩, ?_⟩
       ·repeat' (first | exact trivial | exact ⟨_, rfl, HLT.out, _, _, _, hld⟩ | refine And.intro ?_ ?_)
       go_wp2_with fail
       go_meet
       case rel => exact drx_fin (by simp) hx hs hc (by omega) z
     ·skip
      refine norm_K fun K hK => ?_
      change wpList _ _ _ [_] _ _
      go_wp2_with fail
      have hb_ : Below wq.heap.size wq (wq.alloc (.cells #[.int .i64 1, .int .i64 (p - 1)] 2)) := bwT
      have hb : OwnI (wq.alloc (.cells #[.int .i64 1, .int .i64 (p - 1)] 2)) wq.heap.size wq.heap.size 2 2 ([1, p - 1] : List Int) := OwnI.lit (Nat.le_refl _) [1, p - 1] (by simp)
      obtain ⟨g_, hg_⟩ : ∃ g_, g_ = wq.heap.size := ⟨_, rfl⟩
      have hgl : wr.heap.size + 1 <= g_ := by omega
      obtain ⟨v7, hW_⟩ : ∃ x, x = (wq.alloc (.cells #[.int .i64 1, .int .i64 (p - 1)] 2)) := ⟨_, rfl⟩
      rw [<- hg_] at hb ⊢; rw [<- hW_] at hb_ hb ⊢; clear hW_ hg_
      have hs := hs.below hb_; have hc := hc.bl (hb_.mono hc.size); have hcq := hcq.bl (hb_.mono hcq.size); have hx := hx.below hb_; have hzz := Nat.le_trans hzz hb_.size
      clear hb_
      go_wp2_with fail
      first | (refine hK _ _ ⟨hcq, ?_⟩; clear hK K) | refine ⟨hcq, ?_⟩
      refine norm_K fun K hK => ?_
      change wpList _ _ _ [_] _ _
      go_wp2_with fail
      first | (refine hK _ _ ⟨hcq, ?_⟩; clear hK K) | refine ⟨hcq, ?_⟩
      refine norm_K fun K hK => ?_
      change wpList _ _ _ [_] _ _
      go_wp2_with fail
      refine (snext_c hs (by decide) (by decide)).mono ?_; rintro e v8 ⟨y2, rfl, hy20, hy21, hs, hc_, hz_⟩
      have hc := hc.trans hc_; have hcq := hcq.trans hc_; have hx := hx.chg hc_ (.inr (by omega)); have hzz := Nat.le_trans hzz hc_.size
      have hb := hb.chg hc_ (.inr (by omega))
      clear hc_ hz_
      obtain rfl : y2 = 0 := by omega
      go_wp2_with fail
      first | (refine hK _ _ ⟨hcq, ?_⟩; clear hK K) | refine ⟨hcq, ?_⟩
      refine norm_K fun K hK => ?_
      change wpList _ _ _ [_, _, _, _, _] _ _
      go_wp2_with fail
      refine (spick_c (g := g_) (cap := 2) hs hb (by omega) (by simp) (by simp)).mono ?_; rintro e v9 ⟨z, rfl, _, hs, hc_, hz_⟩
      have hc := hc.trans hc_; have hcq := hcq.trans hc_; have hx := hx.chg hc_ (.inr (by omega)); have hzz := Nat.le_trans hzz hc_.size
      clear hc_ hz_ hb
      have oh1 := hx.hold (i := 1) (by decide); have of1 := hx.free 1
      go_wp2_with fail
      first | (refine hK _ _ ⟨⟨rfl, ?_⟩, ?_⟩; clear hK K) | refine ⟨⟨rfl, ?_⟩, ?_⟩
      ·repeat' (first | exact trivial | exact ⟨_, rfl, HLT.out, _, _, _, hld⟩ | refine And.intro ?_ ?_)
      go_wp2_with fail
      go_meet
      case rel => exact drx_fin (by simp) hx hs hc (by omega) z
    have hyb1 : (y == 1) = false := by simpa using hy1_
    clear hy1
    go_upto_region 8 with fail
    refine @region_tz ⟨q, q + 1⟩ _ (.pre [(0, 0), (1, 0), (2, 0), (3, 0), (6, 0), (7, 0), (8, 1), (9, 0)] (.two 4 5 (.lin [(false, [(5, 0), (10, 5)]), (false, [(11, 4), (12, 0), (13, 4)])]) 10 5 (.lin [(false, [(4, 5)]), (false, [(5, 0), (11, 4), (12, 0), (13, 4)])]))) _ _ _ _ _ (by kernel_rfl) ?_
    have hcq : Chg q (q + 1) w3.drew w3.drew := Chg.refl
    have hbq : Below w3.heap.size w3 w3.drew := bwT
    have hs := hs.below hbq; have hx := hx.below hbq; have hc := hc.bl (hbq.mono hc.size); have hzz : wr.heap.size + 1 <= w3.drew.heap.size := hzz; have hld := hld.below hbq
    clear hbq
    generalize w3.drew = wq at *
    have e0 := hld.c0; have e1 := hld.c1
    refine norm_K fun K hK => ?_
    change wpList _ _ _ [_, _, _, _, _, _, _, _] _ _
    go_wp2_with fail
    first | (refine hK _ _ ⟨⟨rfl, ?_⟩, ?_⟩; clear hK K) | refine ⟨⟨rfl, ?_⟩, ?_⟩
    ·repeat' (first | exact trivial | exact ⟨_, rfl, HLT.out, _, _, _, hld⟩ | refine And.intro ?_ ?_)
    refine ⟨?_, ?_⟩
    ·skip
     refine norm_K fun K hK => ?_
     change wpList _ _ _ [_] _ _
     go_wp2_with fail
     refine (snext_c hs (by decide) (by decide)).mono ?_; rintro e v10 ⟨y3, rfl, hy30, hy31, hs, hc_, hz_⟩
     have hc := hc.trans hc_; have hcq := hcq.trans hc_; have hx := hx.chg hc_ (.inr (by omega)); have hzz := Nat.le_trans hzz hc_.size
     clear hc_ hz_
     have hy32 : y3 < 1 := by omega
     go_wp2_with fail
     first | (refine hK _ _ ⟨hcq, ?_⟩; clear hK K) | refine ⟨hcq, ?_⟩
     refine norm_K fun K hK => ?_
     change wpList _ _ _ [_, _] _ _
     go_wp2_with fail
     have hb_ : Below v10.heap.size v10 (v10.alloc (.cells #[.int .i64 1, .int .i64 1, .int .i64 (p - 1)] 2)) := bwT
     have hb : OwnI (v10.alloc (.cells #[.int .i64 1, .int .i64 1, .int .i64 (p - 1)] 2)) v10.heap.size v10.heap.size 3 3 ([1, 1, p - 1] : List Int) := OwnI.lit (Nat.le_refl _) [1, 1, p - 1] (by simp)
     obtain ⟨g_, hg_⟩ : ∃ g_, g_ = v10.heap.size := ⟨_, rfl⟩
     have hgl : wr.heap.size + 1 <= g_ := by omega
     obtain ⟨v11, hW_⟩ : ∃ x, x = (v10.alloc (.cells #[.int .i64 1, .int .i64 1, .int .i64 (p - 1)] 2)) := ⟨_, rfl⟩
     rw [<- hg_] at hb ⊢; rw [<- hW_] at hb_ hb ⊢; clear hW_ hg_
     have hs := hs.below hb_; have hc := hc.bl (hb_.mono hc.size); have hcq := hcq.bl (hb_.mono hcq.size); have hx := hx.below hb_; have hzz := Nat.le_trans hzz hb_.size
     clear hb_
     go_wp2_with fail
     first | (refine hK _ _ ⟨hcq, ?_⟩; clear hK K) | refine ⟨hcq, ?_⟩
     refine norm_K fun K hK => ?_
     change wpList _ _ _ [_, _, _] _ _
     go_wp2_with fail
     refine (spick_c (g := g_) (cap := 3) hs hb (by omega) (by simp) (by simp)).mono ?_; rintro e v12 ⟨z, rfl, _, hs, hc_, hz_⟩
     have hc := hc.trans hc_; have hcq := hcq.trans hc_; have hx := hx.chg hc_ (.inr (by omega)); have hzz := Nat.le_trans hzz hc_.size
     clear hc_ hz_ hb
     have oh := hx.hold (i := (1 + y3).toNat) (by omega); have of := hx.free (1 + y3).toNat
     go_wp2_with fail
     first | (refine hK _ _ ⟨⟨rfl, ?_⟩, ?_⟩; clear hK K) | refine ⟨⟨rfl, ?_⟩, ?_⟩
     ·repeat' (first | exact trivial | exact ⟨_, rfl, HLT.out, _, _, _, hld⟩ | refine And.intro ?_ ?_)
     go_wp2_with fail
     go_meet
     case rel => exact drx_fin (by simp) hx hs hc (by omega) z
    ·skip
     refine norm_K fun K hK => ?_
     change wpList _ _ _ [_] _ _
     go_wp2_with fail
     have hb_ : Below wq.heap.size wq (wq.alloc (.cells #[.int .i64 1, .int .i64 1, .int .i64 (p - 1)] 2)) := bwT
     have hb : OwnI (wq.alloc (.cells #[.int .i64 1, .int .i64 1, .int .i64 (p - 1)] 2)) wq.heap.size wq.heap.size 3 3 ([1, 1, p - 1] : List Int) := OwnI.lit (Nat.le_refl _) [1, 1, p - 1] (by simp)
     obtain ⟨g_, hg_⟩ : ∃ g_, g_ = wq.heap.size := ⟨_, rfl⟩
     have hgl : wr.heap.size + 1 <= g_ := by omega
     obtain ⟨v13, hW_⟩ : ∃ x, x = (wq.alloc (.cells #[.int .i64 1, .int .i64 1, .int .i64 (p - 1)] 2)) := ⟨_, rfl⟩
     rw [<- hg_] at hb ⊢; rw [<- hW_] at hb_ hb ⊢; clear hW_ hg_
     have hs := hs.below hb_; have hc := hc.bl (hb_.mono hc.size); have hcq := hcq.bl (hb_.mono hcq.size); have hx := hx.below hb_; have hzz := Nat.le_trans hzz hb_.size
     clear hb_
     go_wp2_with fail
     first | (refine hK _ _ ⟨hcq, ?_⟩; clear hK K) | refine ⟨hcq, ?_⟩
     refine norm_K fun K hK => ?_
     change wpList _ _ _ [_] _ _
     go_wp2_with fail
     refine (snext_c hs (by decide) (by decide)).mono ?_; rintro e v14 ⟨y3, rfl, hy30, hy31, hs, hc_, hz_⟩
     have hc := hc.trans hc_; have hcq := hcq.trans hc_; have hx := hx.chg hc_ (.inr (by omega)); have hzz := Nat.le_trans hzz hc_.size
     have hb := hb.chg hc_ (.inr (by omega))
     clear hc_ hz_
     have hy32 : y3 < 1 := by omega
     go_wp2_with fail
     first | (refine hK _ _ ⟨hcq, ?_⟩; clear hK K) | refine ⟨hcq, ?_⟩
     refine norm_K fun K hK => ?_
     change wpList _ _ _ [_, _, _, _] _ _
     go_wp2_with fail
     refine (spick_c (g := g_) (cap := 3) hs hb (by omega) (by simp) (by simp)).mono ?_; rintro e v15 ⟨z, rfl, _, hs, hc_, hz_⟩
     have hc := hc.trans hc_; have hcq := hcq.trans hc_; have hx := hx.chg hc_ (.inr (by omega)); have hzz := Nat.le_trans hzz hc_.size
     clear hc_ hz_ hb
     have oh := hx.hold (i := (1 + y3).toNat) (by omega); have of := hx.free (1 + y3).toNat
     go_wp2_with fail
     first | (refine hK _ _ ⟨⟨rfl, ?_⟩, ?_⟩; clear hK K) | refine ⟨⟨rfl, ?_⟩, ?_⟩
     ·repeat' (first | exact trivial | exact ⟨_, rfl, HLT.out, _, _, _, hld⟩ | refine And.intro ?_ ?_)
     go_wp2_with fail
     go_meet
     case rel => exact drx_fin (by simp) hx hs hc (by omega) z
   case' rest => skip
   obtain ⟨ys, hyl, hx, hs5, hc5⟩ := hcut
   have hzn := hl.fresh hx.fr.elr
   have hl5 := hl.chg hc5 (by omega); have hd5 := hd.chg hc5 (.inr (by omega)); have hcw5 := hcw.trans hc5
   have hz5 := hc5.size
   have hE := hx.fr.elr
   have HYL := Lib.hid hyl
   clear hl hd hcw hx hc hd3 hs3 hs hyl e0 e1 hlt1 hlt2 hy0 hy1
   go_wp2_with (at_builtin; refine appr_one rfl _ _ rfl wc (w.heap.size + 1) _ rfl (.slice ab us.length cb) us rfl (.slice (some ⟨wr.heap.size, 0, none⟩) 2 2) 1 rfl rfl hl5.own (by omega) (by have := HXL.out; omega) ?_; intro g' cap' w8 hown' hgb' hg' hge)
   have hl8 := hl5.snoc (hE.more (by omega)) hzn (nv := .slice (some ⟨g', 0, none⟩) (us.length + 1) cap') rfl hown' hgb' hg' hge
   go_roundw
   case rel => exact ⟨k + 1, _, _, by omega, by go_num, by rw [List.length_append, HXL.out.1]; rfl, leN_snoc h16 (by rw [HYL.out]; decide), hl8, hd5.bl hgb' (by omega), hs5.bl hgb' (by omega), hcw5.bl (hgb'.mono (by omega)), by have := hgb'.size; omega⟩
   case measure => simp [intOf]; omega
  ·obtain rfl : k = 1 := by omega
   go_wp2_with fail
   go_ret
   exact ⟨_, us, xss, rfl, HXL.out.1, h16, hl.more (by omega), hs, hcw⟩
set_option maxHeartbeats 16000000 in
set_option maxRecDepth 100000 in
theorem sdrawim2_c {q c : Nat} {p : Int} {a : Option Addr} {w : World} (hs : Src w q) (hcap : 2 <= c) (hcb : c <= 9223372036854775807) (hp0 : 0 <= p) (hp1 : p <= 17) :
  Calls Tryz.prog 42 #[.pointer (some ⟨q, 0, none⟩), .agg #[.int .i64 p, .slice a 2 c]] w fun e w' => DrI w q 2 e w' := by
 have hq := hs.lt
 have HLT := Lib.hid (show w.heap.size < q \/ q + 1 <= w.heap.size by omega)
 go_enter Tryz.func42, Tryz.ntmps42
 go_wp2_with fail
 obtain ⟨W1, hW1⟩ : ∃ x, x = ((w.alloc (.cells #[.int .i64 p, .slice a 2 c] 26)).alloc (.cells #[] 24)) := ⟨_, rfl⟩
 have hb1 : Below w.heap.size w W1 := by rw [hW1]; exact bwT
 have hz1 : W1.heap.size = w.heap.size + 1 + 1 := by rw [hW1]; simp
 have hl : LsR W1 (w.heap.size + 1) (.slice (some ⟨w.heap.size + 1, 0, none⟩) 0 0) [] [] := by
  rw [hW1]
  have h := LsR.new (w := (w.alloc (.cells #[.int .i64 p, .slice a 2 c] 26))) (B := w.heap.size + 1) (by simp)
  simpa using h
 have hd : Bd W1 w.heap.size (.int .i64 p) (.slice a 2 c) := by rw [hW1]; exact Bd.below (heap_alloc_new w _) bwT
 rw [<- hW1]; clear hW1
 have e0 := hd.c0; have e1 := hd.c1
 go_wp2_with fail
 refine (ssize_c (by decide)).mono ?_; rintro e w2 ⟨rfl, hb2⟩
 rw [show ((sz 2 : Nat) : Int) = 4 from rfl]
 have hs := (hs.bl hb1 hq).below hb2; have hl := hl.below hb2; have hd := hd.below hb2
 have hcw : Chg q (q + 1) w w2 := (Chg.refl.bl hb1).bl (hb2.mono (by omega))
 have hzz : w.heap.size + 1 <= w2.heap.size := by have := hb2.size; omega
 clear hb1 hz1 hb2 e0 e1
 go_wp2_with fail
 go_loopw [5, 7] (fun ov iv wr => ∃ (k : Nat) (us : List Value) (xss : List (List Int)), k <= 2 /\ iv = .int .i64 k /\ xss.length = k /\ (∀ xs ∈ xss, xs.length <= 16) /\ LsR wr (w.heap.size + 1) ov us xss /\ Bd wr w.heap.size (.int .i64 p) (.slice a 2 c) /\ Src wr q /\ Chg q (q + 1) w wr /\ w.heap.size + 1 <= wr.heap.size) (fun _ iv _ => 2 - (intOf iv).toNat)
 case atStart => exact ⟨0, _, [], by omega, rfl, rfl, by simp, hl, hd, hs, hcw, hzz⟩
 case round =>
  clear hs hl hd hcw hzz
  obtain ⟨k, us, xss, hk, rfl, hXl, h16, hl, hd, hs, hcw, hzz⟩ := hrel
  obtain ⟨ab, cb, rfl⟩ := hl.form
  have HXL := Lib.hid (And.intro hXl hl.len); clear hXl
  have e0 := hd.c0; have e1 := hd.c1
  by_cases hlt : k < 2
  ·have hlt1 : (k : Int) < 2 := by omega
   have hlt2 : (k : Int) < 4 := by omega
   have hx := made_own (W := wr) (n := 4) (by decide)
   have hbx : Below wr.heap.size wr (wr.alloc (.cells (madeCells #[Value.int .i64 0] 4) 2)) := bwT
   have hzx : wr.heap.size + 1 <= (wr.alloc (.cells (madeCells #[Value.int .i64 0] 4) 2)).heap.size := by simp
   have hs7 := hs.below hbx; have hc7 : Chg q (q + 1) wr (wr.alloc (.cells (madeCells #[Value.int .i64 0] 4) 2)) := Chg.refl.bl hbx
   have hqr : q + 1 <= wr.heap.size := by omega
   have hmk : ∀ W : World, Sem.run Tryz.prog (Instr.makeSlice 24 (.int .i64 4) (.int .i64 4)) W = _ := fun W => run_make_row' (P := Tryz.prog) 24 2 (.int .i64 0) 8 Tryz.underlying24 infoI rfl .i64 .i64 4 (by omega) (by omega) W
   go_wp2_with fail
   clear hmk
   generalize wr.alloc (.cells (madeCells #[Value.int .i64 0] 4) 2) = W7 at *
   refine (snext_c hs7 (by decide) (by decide)).mono ?_; rintro e w3 ⟨y, rfl, hy0, hy1, hs3, hc3, hz3_⟩
   have hx := hx.chg hc3 (.inr (by omega)); have hc := hc7.trans hc3; have hz3 : wr.heap.size + 1 <= w3.heap.size := by omega
   have hd3 := hd.chg hc (.inr (by omega))
   clear hc3 hc7 hs7 hbx hzx hz3_
   go_upto_block 2 with fail
   go_cut [] (fun wx => DrX wr q 4 wx)
   case first =>
    have hld := hd3; have e0 := hd3.c0; have e1 := hd3.c1
    have hs := hs3; have hzz := hz3
    clear hs3 hz3
    by_cases hy : y = 0
    case pos =>
     subst hy
     clear hy1
     rcases (show k = 0 \/ k = 1 by omega) with rfl | rfl
     all_goals
      go_wp2_with fail
      have hb_ : Below w3.heap.size w3 (w3.alloc (.cells #[.int .i64 1, .int .i64 (p - 1)] 2)) := bwT
      have hb : OwnI (w3.alloc (.cells #[.int .i64 1, .int .i64 (p - 1)] 2)) w3.heap.size w3.heap.size 2 2 ([1, p - 1] : List Int) := OwnI.lit (Nat.le_refl _) [1, p - 1] (by simp)
      obtain ⟨w4, hW_⟩ : ∃ x, x = (w3.alloc (.cells #[.int .i64 1, .int .i64 (p - 1)] 2)) := ⟨_, rfl⟩
      rw [<- hW_] at hb_ hb ⊢; clear hW_
      have hs := hs.below hb_; have hc := hc.bl (hb_.mono hc.size); have hx := hx.below hb_
      refine (spick_c (g := w3.heap.size) (cap := 2) hs hb (by omega) (by simp) (by simp)).mono ?_; rintro e w5 ⟨z, rfl, _, hs, hc_, hz_⟩
      have hc := hc.trans hc_; have hx := hx.chg hc_ (.inr (by omega))
      clear hc_ hz_ hb hb_
      have oh1 := hx.hold (i := 1) (by decide); have of1 := hx.free 1; have oh2 := hx.hold (i := 2) (by decide); have of2 := hx.free 2
      go_wp2_with fail
      go_meet
      case rel => exact drx_fin (by simp) hx hs hc (by omega) z
    have hyb : (y == 0) = false := by simpa using hy
    by_cases hy1_ : y = 1
    case pos =>
     subst hy1_
     clear hy1
     go_upto_region 12 with fail
     refine @region_tz ⟨q, q + 1⟩ _ (.pre [(0, 0), (1, 0), (2, 0), (3, 1), (4, 0), (9, 0), (10, 0), (11, 1), (12, 0)] (.two 5 5 (.two 6 5 (.lin [(false, [(7, 0), (8, 0), (13, 5)]), (false, [(14, 4), (15, 0), (16, 4)])]) 13 5 (.lin [(false, [(6, 5)]), (false, [(7, 0), (8, 0), (14, 4), (15, 0), (16, 4)])])) 13 5 (.lin [(false, [(5, 5)]), (false, [(6, 5)]), (false, [(7, 0), (8, 0), (14, 4), (15, 0), (16, 4)])]))) _ _ _ _ _ (by kernel_rfl) ?_
     have hcq : Chg q (q + 1) w3.drew w3.drew := Chg.refl
     have hbq : Below w3.heap.size w3 w3.drew := bwT
     have hs := hs.below hbq; have hx := hx.below hbq; have hc := hc.bl (hbq.mono hc.size); have hzz : wr.heap.size + 1 <= w3.drew.heap.size := hzz; have hld := hld.below hbq
     clear hbq
     generalize w3.drew = wq at *
     have e0 := hld.c0; have e1 := hld.c1
     refine norm_K fun K hK => ?_
     change wpList _ _ _ [_, _, _, _, _, _, _, _, _] _ _
     go_wp2_with fail
     first | (refine hK _ _ ⟨⟨rfl, ?_⟩, ?_⟩; clear hK K) | refine ⟨⟨rfl, ?_⟩, ?_⟩
     ·repeat' (first | exact trivial | exact ⟨_, rfl, HLT.out, _, _, _, hld⟩ | refine And.intro ?_ ?_)
     refine ⟨?_, ?_⟩
     ·skip
      refine norm_K fun K hK => ?_
      change wpList _ _ _ [_] _ _
      go_wp2_with fail
      first | (refine hK _ _ ⟨hcq, ?_⟩; clear hK K) | refine ⟨hcq, ?_⟩
      refine ⟨?_, ?_⟩
      ·skip
       refine norm_K fun K hK => ?_
       change wpList _ _ _ [_] _ _
       go_wp2_with fail
       refine (snext_c hs (by decide) (by decide)).mono ?_; rintro e v1 ⟨y2, rfl, hy20, hy21, hs, hc_, hz_⟩
       have hc := hc.trans hc_; have hcq := hcq.trans hc_; have hx := hx.chg hc_ (.inr (by omega)); have hzz := Nat.le_trans hzz hc_.size
       clear hc_ hz_
       rcases (show y2 = 0 \/ y2 = 1 by omega) with rfl | rfl
       all_goals
        go_wp2_with fail
        first | (refine hK _ _ ⟨hcq, ?_⟩; clear hK K) | refine ⟨hcq, ?_⟩
        refine norm_K fun K hK => ?_
        change wpList _ _ _ [_, _, _] _ _
        go_wp2_with fail
        have hb_ : Below v1.heap.size v1 (v1.alloc (.cells #[.int .i64 1, .int .i64 (p - 1)] 2)) := bwT
        have hb : OwnI (v1.alloc (.cells #[.int .i64 1, .int .i64 (p - 1)] 2)) v1.heap.size v1.heap.size 2 2 ([1, p - 1] : List Int) := OwnI.lit (Nat.le_refl _) [1, p - 1] (by simp)
        obtain ⟨g_, hg_⟩ : ∃ g_, g_ = v1.heap.size := ⟨_, rfl⟩
        have hgl : wr.heap.size + 1 <= g_ := by omega
        obtain ⟨v2, hW_⟩ : ∃ x, x = (v1.alloc (.cells #[.int .i64 1, .int .i64 (p - 1)] 2)) := ⟨_, rfl⟩
        rw [<- hg_] at hb ⊢; rw [<- hW_] at hb_ hb ⊢; clear hW_ hg_
        have hs := hs.below hb_; have hc := hc.bl (hb_.mono hc.size); have hcq := hcq.bl (hb_.mono hcq.size); have hx := hx.below hb_; have hzz := Nat.le_trans hzz hb_.size
        clear hb_
        go_wp2_with fail
        first | (refine hK _ _ ⟨hcq, ?_⟩; clear hK K) | refine ⟨hcq, ?_⟩
        refine norm_K fun K hK => ?_
        change wpList _ _ _ [_, _, _] _ _
        go_wp2_with fail
        refine (spick_c (g := g_) (cap := 2) hs hb (by omega) (by simp) (by simp)).mono ?_; rintro e v3 ⟨z, rfl, _, hs, hc_, hz_⟩
        have hc := hc.trans hc_; have hcq := hcq.trans hc_; have hx := hx.chg hc_ (.inr (by omega)); have hzz := Nat.le_trans hzz hc_.size
        clear hc_ hz_ hb
        have oh1 := hx.hold (i := 1) (by decide); have of1 := hx.free 1; have oh2 := hx.hold (i := 2) (by decide); have of2 := hx.free 2
        go_wp2_with fail
        first | (refine hK _ _ ⟨⟨rfl, ?_⟩, ?_⟩; clear hK K) | refine ⟨⟨rfl, ?_⟩, ?_⟩
        ·repeat' (first | exact trivial | exact ⟨_, rfl, HLT.out, _, _, _, hld⟩ | refine And.intro ?_ ?_)
        go_wp2_with fail
        go_meet
        case rel => exact drx_fin (by simp) hx hs hc (by omega) z
      ·skip
       refine norm_K fun K hK => ?_
       change wpList _ _ _ [_] _ _
       go_wp2_with fail
       have hb_ : Below wq.heap.size wq (wq.alloc (.cells #[.int .i64 1, .int .i64 (p - 1)] 2)) := bwT
       have hb : OwnI (wq.alloc (.cells #[.int .i64 1, .int .i64 (p - 1)] 2)) wq.heap.size wq.heap.size 2 2 ([1, p - 1] : List Int) := OwnI.lit (Nat.le_refl _) [1, p - 1] (by simp)
       obtain ⟨g_, hg_⟩ : ∃ g_, g_ = wq.heap.size := ⟨_, rfl⟩
       have hgl : wr.heap.size + 1 <= g_ := by omega
       obtain ⟨v4, hW_⟩ : ∃ x, x = (wq.alloc (.cells #[.int .i64 1, .int .i64 (p - 1)] 2)) := ⟨_, rfl⟩
       rw [<- hg_] at hb ⊢; rw [<- hW_] at hb_ hb ⊢; clear hW_ hg_
       have hs := hs.below hb_; have hc := hc.bl (hb_.mono hc.size); have hcq := hcq.bl (hb_.mono hcq.size); have hx := hx.below hb_; have hzz := Nat.le_trans hzz hb_.size
       clear hb_
       go_wp2_with fail
       first | (refine hK _ _ ⟨hcq, ?_⟩; clear hK K) | refine ⟨hcq, ?_⟩
       refine norm_K fun K hK => ?_
       change wpList _ _ _ [_] _ _
       go_wp2_with fail
       refine (snext_c hs (by decide) (by decide)).mono ?_; rintro e v5 ⟨y2, rfl, hy20, hy21, hs, hc_, hz_⟩
       have hc := hc.trans hc_; have hcq := hcq.trans hc_; have hx := hx.chg hc_ (.inr (by omega)); have hzz := Nat.le_trans hzz hc_.size
       have hb := hb.chg hc_ (.inr (by omega))
       clear hc_ hz_
       rcases (show y2 = 0 \/ y2 = 1 by omega) with rfl | rfl
       all_goals
        go_wp2_with fail
        first | (refine hK _ _ ⟨hcq, ?_⟩; clear hK K) | refine ⟨hcq, ?_⟩
        refine norm_K fun K hK => ?_
        change wpList _ _ _ [_, _, _, _, _] _ _
        go_wp2_with fail
        refine (spick_c (g := g_) (cap := 2) hs hb (by omega) (by simp) (by simp)).mono ?_; rintro e v6 ⟨z, rfl, _, hs, hc_, hz_⟩
        have hc := hc.trans hc_; have hcq := hcq.trans hc_; have hx := hx.chg hc_ (.inr (by omega)); have hzz := Nat.le_trans hzz hc_.size
        clear hc_ hz_ hb
        have oh1 := hx.hold (i := 1) (by decide); have of1 := hx.free 1; have oh2 := hx.hold (i := 2) (by decide); have of2 := hx.free 2
        go_wp2_with fail
        first | (refine hK _ _ ⟨⟨rfl, ?_⟩, ?_⟩; clear hK K) | refine ⟨⟨rfl, ?_⟩, ?_⟩
        ·repeat' (first | exact trivial | exact ⟨_, rfl, HLT.out, _, _, _, hld⟩ | refine And.intro ?_ ?_)
        go_wp2_with fail
        go_meet
        case rel => exact drx_fin (by simp) hx hs hc (by omega) z
     ·skip
      refine norm_K fun K hK => ?_
      change wpList _ _ _ [_] _ _
      go_wp2_with fail
      have hb_ : Below wq.heap.size wq (wq.alloc (.cells #[.int .i64 1, .int .i64 (p - 1)] 2)) := bwT
      have hb : OwnI (wq.alloc (.cells #[.int .i64 1, .int .i64 (p - 1)] 2)) wq.heap.size wq.heap.size 2 2 ([1, p - 1] : List Int) := OwnI.lit (Nat.le_refl _) [1, p - 1] (by simp)
      obtain ⟨g_, hg_⟩ : ∃ g_, g_ = wq.heap.size := ⟨_, rfl⟩
      have hgl : wr.heap.size + 1 <= g_ := by omega
      obtain ⟨v7, hW_⟩ : ∃ x, x = (wq.alloc (.cells #[.int .i64 1, .int .i64 (p - 1)] 2)) := ⟨_, rfl⟩
      rw [<- hg_] at hb ⊢; rw [<- hW_] at hb_ hb ⊢; clear hW_ hg_
      have hs := hs.below hb_; have hc := hc.bl (hb_.mono hc.size); have hcq := hcq.bl (hb_.mono hcq.size); have hx := hx.below hb_; have hzz := Nat.le_trans hzz hb_.size
      clear hb_
      go_wp2_with fail
      first | (refine hK _ _ ⟨hcq, ?_⟩; clear hK K) | refine ⟨hcq, ?_⟩
      refine norm_K fun K hK => ?_
      change wpList _ _ _ [_] _ _
      go_wp2_with fail
      first | (refine hK _ _ ⟨hcq, ?_⟩; clear hK K) | refine ⟨hcq, ?_⟩
      refine norm_K fun K hK => ?_
      change wpList _ _ _ [_] _ _
      go_wp2_with fail
      refine (snext_c hs (by decide) (by decide)).mono ?_; rintro e v8 ⟨y2, rfl, hy20, hy21, hs, hc_, hz_⟩
      have hc := hc.trans hc_; have hcq := hcq.trans hc_; have hx := hx.chg hc_ (.inr (by omega)); have hzz := Nat.le_trans hzz hc_.size
      have hb := hb.chg hc_ (.inr (by omega))
      clear hc_ hz_
      rcases (show y2 = 0 \/ y2 = 1 by omega) with rfl | rfl
      all_goals
       go_wp2_with fail
       first | (refine hK _ _ ⟨hcq, ?_⟩; clear hK K) | refine ⟨hcq, ?_⟩
       refine norm_K fun K hK => ?_
       change wpList _ _ _ [_, _, _, _, _] _ _
       go_wp2_with fail
       refine (spick_c (g := g_) (cap := 2) hs hb (by omega) (by simp) (by simp)).mono ?_; rintro e v9 ⟨z, rfl, _, hs, hc_, hz_⟩
       have hc := hc.trans hc_; have hcq := hcq.trans hc_; have hx := hx.chg hc_ (.inr (by omega)); have hzz := Nat.le_trans hzz hc_.size
       clear hc_ hz_ hb
       have oh1 := hx.hold (i := 1) (by decide); have of1 := hx.free 1; have oh2 := hx.hold (i := 2) (by decide); have of2 := hx.free 2
       go_wp2_with fail
       first | (refine hK _ _ ⟨⟨rfl, ?_⟩, ?_⟩; clear hK K) | refine ⟨⟨rfl, ?_⟩, ?_⟩
       ·repeat' (first | exact trivial | exact ⟨_, rfl, HLT.out, _, _, _, hld⟩ | refine And.intro ?_ ?_)
       go_wp2_with fail
       go_meet
       case rel => exact drx_fin (by simp) hx hs hc (by omega) z
    have hyb1 : (y == 1) = false := by simpa using hy1_
    clear hy1
    go_upto_region 8 with fail
    refine @region_tz ⟨q, q + 1⟩ _ (.pre [(0, 0), (1, 0), (2, 0), (3, 0), (6, 0), (7, 0), (8, 1), (9, 0)] (.two 4 5 (.lin [(false, [(5, 0), (10, 5)]), (false, [(11, 4), (12, 0), (13, 4)])]) 10 5 (.lin [(false, [(4, 5)]), (false, [(5, 0), (11, 4), (12, 0), (13, 4)])]))) _ _ _ _ _ (by kernel_rfl) ?_
    have hcq : Chg q (q + 1) w3.drew w3.drew := Chg.refl
    have hbq : Below w3.heap.size w3 w3.drew := bwT
    have hs := hs.below hbq; have hx := hx.below hbq; have hc := hc.bl (hbq.mono hc.size); have hzz : wr.heap.size + 1 <= w3.drew.heap.size := hzz; have hld := hld.below hbq
    clear hbq
    generalize w3.drew = wq at *
    have e0 := hld.c0; have e1 := hld.c1
    refine norm_K fun K hK => ?_
    change wpList _ _ _ [_, _, _, _, _, _, _, _] _ _
    go_wp2_with fail
    first | (refine hK _ _ ⟨⟨rfl, ?_⟩, ?_⟩; clear hK K) | refine ⟨⟨rfl, ?_⟩, ?_⟩
    ·repeat' (first | exact trivial | exact ⟨_, rfl, HLT.out, _, _, _, hld⟩ | refine And.intro ?_ ?_)
    refine ⟨?_, ?_⟩
    ·skip
     refine norm_K fun K hK => ?_
     change wpList _ _ _ [_] _ _
     go_wp2_with fail
     refine (snext_c hs (by decide) (by decide)).mono ?_; rintro e v10 ⟨y3, rfl, hy30, hy31, hs, hc_, hz_⟩
     have hc := hc.trans hc_; have hcq := hcq.trans hc_; have hx := hx.chg hc_ (.inr (by omega)); have hzz := Nat.le_trans hzz hc_.size
     clear hc_ hz_
     have hy32 : y3 < 3 := by omega
     go_wp2_with fail
     first | (refine hK _ _ ⟨hcq, ?_⟩; clear hK K) | refine ⟨hcq, ?_⟩
     refine norm_K fun K hK => ?_
     change wpList _ _ _ [_, _] _ _
     go_wp2_with fail
     have hb_ : Below v10.heap.size v10 (v10.alloc (.cells #[.int .i64 1, .int .i64 1, .int .i64 (p - 1)] 2)) := bwT
     have hb : OwnI (v10.alloc (.cells #[.int .i64 1, .int .i64 1, .int .i64 (p - 1)] 2)) v10.heap.size v10.heap.size 3 3 ([1, 1, p - 1] : List Int) := OwnI.lit (Nat.le_refl _) [1, 1, p - 1] (by simp)
     obtain ⟨g_, hg_⟩ : ∃ g_, g_ = v10.heap.size := ⟨_, rfl⟩
     have hgl : wr.heap.size + 1 <= g_ := by omega
     obtain ⟨v11, hW_⟩ : ∃ x, x = (v10.alloc (.cells #[.int .i64 1, .int .i64 1, .int .i64 (p - 1)] 2)) := ⟨_, rfl⟩
     rw [<- hg_] at hb ⊢; rw [<- hW_] at hb_ hb ⊢; clear hW_ hg_
     have hs := hs.below hb_; have hc := hc.bl (hb_.mono hc.size); have hcq := hcq.bl (hb_.mono hcq.size); have hx := hx.below hb_; have hzz := Nat.le_trans hzz hb_.size
     clear hb_
     go_wp2_with fail
     first | (refine hK _ _ ⟨hcq, ?_⟩; clear hK K) | refine ⟨hcq, ?_⟩
     refine norm_K fun K hK => ?_
     change wpList _ _ _ [_, _, _] _ _
     go_wp2_with fail
     refine (spick_c (g := g_) (cap := 3) hs hb (by omega) (by simp) (by simp)).mono ?_; rintro e v12 ⟨z, rfl, _, hs, hc_, hz_⟩
     have hc := hc.trans hc_; have hcq := hcq.trans hc_; have hx := hx.chg hc_ (.inr (by omega)); have hzz := Nat.le_trans hzz hc_.size
     clear hc_ hz_ hb
     have oh := hx.hold (i := (1 + y3).toNat) (by omega); have of := hx.free (1 + y3).toNat
     go_wp2_with fail
     first | (refine hK _ _ ⟨⟨rfl, ?_⟩, ?_⟩; clear hK K) | refine ⟨⟨rfl, ?_⟩, ?_⟩
     ·repeat' (first | exact trivial | exact ⟨_, rfl, HLT.out, _, _, _, hld⟩ | refine And.intro ?_ ?_)
     go_wp2_with fail
     go_meet
     case rel => exact drx_fin (by simp) hx hs hc (by omega) z
    ·skip
     refine norm_K fun K hK => ?_
     change wpList _ _ _ [_] _ _
     go_wp2_with fail
     have hb_ : Below wq.heap.size wq (wq.alloc (.cells #[.int .i64 1, .int .i64 1, .int .i64 (p - 1)] 2)) := bwT
     have hb : OwnI (wq.alloc (.cells #[.int .i64 1, .int .i64 1, .int .i64 (p - 1)] 2)) wq.heap.size wq.heap.size 3 3 ([1, 1, p - 1] : List Int) := OwnI.lit (Nat.le_refl _) [1, 1, p - 1] (by simp)
     obtain ⟨g_, hg_⟩ : ∃ g_, g_ = wq.heap.size := ⟨_, rfl⟩
     have hgl : wr.heap.size + 1 <= g_ := by omega
     obtain ⟨v13, hW_⟩ : ∃ x, x = (wq.alloc (.cells #[.int .i64 1, .int .i64 1, .int .i64 (p - 1)] 2)) := ⟨_, rfl⟩
     rw [<- hg_] at hb ⊢; rw [<- hW_] at hb_ hb ⊢; clear hW_ hg_
     have hs := hs.below hb_; have hc := hc.bl (hb_.mono hc.size); have hcq := hcq.bl (hb_.mono hcq.size); have hx := hx.below hb_; have hzz := Nat.le_trans hzz hb_.size
     clear hb_
     go_wp2_with fail
     first | (refine hK _ _ ⟨hcq, ?_⟩; clear hK K) | refine ⟨hcq, ?_⟩
     refine norm_K fun K hK => ?_
     change wpList _ _ _ [_] _ _
     go_wp2_with fail
     refine (snext_c hs (by decide) (by decide)).mono ?_; rintro e v14 ⟨y3, rfl, hy30, hy31, hs, hc_, hz_⟩
     have hc := hc.trans hc_; have hcq := hcq.trans hc_; have hx := hx.chg hc_ (.inr (by omega)); have hzz := Nat.le_trans hzz hc_.size
     have hb := hb.chg hc_ (.inr (by omega))
     clear hc_ hz_
     have hy32 : y3 < 3 := by omega
     go_wp2_with fail
     first | (refine hK _ _ ⟨hcq, ?_⟩; clear hK K) | refine ⟨hcq, ?_⟩
     refine norm_K fun K hK => ?_
     change wpList _ _ _ [_, _, _, _] _ _
     go_wp2_with fail
     refine (spick_c (g := g_) (cap := 3) hs hb (by omega) (by simp) (by simp)).mono ?_; rintro e v15 ⟨z, rfl, _, hs, hc_, hz_⟩
     have hc := hc.trans hc_; have hcq := hcq.trans hc_; have hx := hx.chg hc_ (.inr (by omega)); have hzz := Nat.le_trans hzz hc_.size
     clear hc_ hz_ hb
     have oh := hx.hold (i := (1 + y3).toNat) (by omega); have of := hx.free (1 + y3).toNat
     go_wp2_with fail
     first | (refine hK _ _ ⟨⟨rfl, ?_⟩, ?_⟩; clear hK K) | refine ⟨⟨rfl, ?_⟩, ?_⟩
     ·repeat' (first | exact trivial | exact ⟨_, rfl, HLT.out, _, _, _, hld⟩ | refine And.intro ?_ ?_)
     go_wp2_with fail
     go_meet
     case rel => exact drx_fin (by simp) hx hs hc (by omega) z
   case' rest => skip
   obtain ⟨ys, hyl, hx, hs5, hc5⟩ := hcut
   have hzn := hl.fresh hx.fr.elr
   have hl5 := hl.chg hc5 (by omega); have hd5 := hd.chg hc5 (.inr (by omega)); have hcw5 := hcw.trans hc5
   have hz5 := hc5.size
   have hE := hx.fr.elr
   have HYL := Lib.hid hyl
   clear hl hd hcw hx hc hd3 hs3 hs hyl e0 e1 hlt1 hlt2 hy0 hy1
   go_wp2_with (at_builtin; refine appr_one rfl _ _ rfl wc (w.heap.size + 1) _ rfl (.slice ab us.length cb) us rfl (.slice (some ⟨wr.heap.size, 0, none⟩) 4 4) 1 rfl rfl hl5.own (by omega) (by have := HXL.out; omega) ?_; intro g' cap' w8 hown' hgb' hg' hge)
   have hl8 := hl5.snoc (hE.more (by omega)) hzn (nv := .slice (some ⟨g', 0, none⟩) (us.length + 1) cap') rfl hown' hgb' hg' hge
   go_roundw
   case rel => exact ⟨k + 1, _, _, by omega, by go_num, by rw [List.length_append, HXL.out.1]; rfl, leN_snoc h16 (by rw [HYL.out]; decide), hl8, hd5.bl hgb' (by omega), hs5.bl hgb' (by omega), hcw5.bl (hgb'.mono (by omega)), by have := hgb'.size; omega⟩
   case measure => simp [intOf]; omega
  ·obtain rfl : k = 2 := by omega
   go_wp2_with fail
   go_ret
   exact ⟨_, us, xss, rfl, HXL.out.1, h16, hl.more (by omega), hs, hcw⟩
set_option maxHeartbeats 16000000 in
set_option maxRecDepth 100000 in
theorem sdrawim3_c {q c : Nat} {p : Int} {a : Option Addr} {w : World} (hs : Src w q) (hcap : 3 <= c) (hcb : c <= 9223372036854775807) (hp0 : 0 <= p) (hp1 : p <= 17) :
  Calls Tryz.prog 42 #[.pointer (some ⟨q, 0, none⟩), .agg #[.int .i64 p, .slice a 3 c]] w fun e w' => DrI w q 3 e w' := by
 have hq := hs.lt
 have HLT := Lib.hid (show w.heap.size < q \/ q + 1 <= w.heap.size by omega)
 go_enter Tryz.func42, Tryz.ntmps42
 go_wp2_with fail
 obtain ⟨W1, hW1⟩ : ∃ x, x = ((w.alloc (.cells #[.int .i64 p, .slice a 3 c] 26)).alloc (.cells #[] 24)) := ⟨_, rfl⟩
 have hb1 : Below w.heap.size w W1 := by rw [hW1]; exact bwT
 have hz1 : W1.heap.size = w.heap.size + 1 + 1 := by rw [hW1]; simp
 have hl : LsR W1 (w.heap.size + 1) (.slice (some ⟨w.heap.size + 1, 0, none⟩) 0 0) [] [] := by
  rw [hW1]
  have h := LsR.new (w := (w.alloc (.cells #[.int .i64 p, .slice a 3 c] 26))) (B := w.heap.size + 1) (by simp)
  simpa using h
 have hd : Bd W1 w.heap.size (.int .i64 p) (.slice a 3 c) := by rw [hW1]; exact Bd.below (heap_alloc_new w _) bwT
 rw [<- hW1]; clear hW1
 have e0 := hd.c0; have e1 := hd.c1
 go_wp2_with fail
 refine (ssize_c (by decide)).mono ?_; rintro e w2 ⟨rfl, hb2⟩
 rw [show ((sz 3 : Nat) : Int) = 8 from rfl]
 have hs := (hs.bl hb1 hq).below hb2; have hl := hl.below hb2; have hd := hd.below hb2
 have hcw : Chg q (q + 1) w w2 := (Chg.refl.bl hb1).bl (hb2.mono (by omega))
 have hzz : w.heap.size + 1 <= w2.heap.size := by have := hb2.size; omega
 clear hb1 hz1 hb2 e0 e1
 go_wp2_with fail
 go_loopw [5, 7] (fun ov iv wr => ∃ (k : Nat) (us : List Value) (xss : List (List Int)), k <= 3 /\ iv = .int .i64 k /\ xss.length = k /\ (∀ xs ∈ xss, xs.length <= 16) /\ LsR wr (w.heap.size + 1) ov us xss /\ Bd wr w.heap.size (.int .i64 p) (.slice a 3 c) /\ Src wr q /\ Chg q (q + 1) w wr /\ w.heap.size + 1 <= wr.heap.size) (fun _ iv _ => 3 - (intOf iv).toNat)
 case atStart => exact ⟨0, _, [], by omega, rfl, rfl, by simp, hl, hd, hs, hcw, hzz⟩
 case round =>
  clear hs hl hd hcw hzz
  obtain ⟨k, us, xss, hk, rfl, hXl, h16, hl, hd, hs, hcw, hzz⟩ := hrel
  obtain ⟨ab, cb, rfl⟩ := hl.form
  have HXL := Lib.hid (And.intro hXl hl.len); clear hXl
  have e0 := hd.c0; have e1 := hd.c1
  by_cases hlt : k < 3
  ·have hlt1 : (k : Int) < 3 := by omega
   have hlt2 : (k : Int) < 4 := by omega
   have hx := made_own (W := wr) (n := 8) (by decide)
   have hbx : Below wr.heap.size wr (wr.alloc (.cells (madeCells #[Value.int .i64 0] 8) 2)) := bwT
   have hzx : wr.heap.size + 1 <= (wr.alloc (.cells (madeCells #[Value.int .i64 0] 8) 2)).heap.size := by simp
   have hs7 := hs.below hbx; have hc7 : Chg q (q + 1) wr (wr.alloc (.cells (madeCells #[Value.int .i64 0] 8) 2)) := Chg.refl.bl hbx
   have hqr : q + 1 <= wr.heap.size := by omega
   have hmk : ∀ W : World, Sem.run Tryz.prog (Instr.makeSlice 24 (.int .i64 8) (.int .i64 8)) W = _ := fun W => run_make_row' (P := Tryz.prog) 24 2 (.int .i64 0) 8 Tryz.underlying24 infoI rfl .i64 .i64 8 (by omega) (by omega) W
   go_wp2_with fail
   clear hmk
   generalize wr.alloc (.cells (madeCells #[Value.int .i64 0] 8) 2) = W7 at *
   refine (snext_c hs7 (by decide) (by decide)).mono ?_; rintro e w3 ⟨y, rfl, hy0, hy1, hs3, hc3, hz3_⟩
   have hx := hx.chg hc3 (.inr (by omega)); have hc := hc7.trans hc3; have hz3 : wr.heap.size + 1 <= w3.heap.size := by omega
   have hd3 := hd.chg hc (.inr (by omega))
   clear hc3 hc7 hs7 hbx hzx hz3_
   go_upto_block 2 with fail
   go_cut [] (fun wx => DrX wr q 8 wx)
   case first =>
    have hld := hd3; have e0 := hd3.c0; have e1 := hd3.c1
    have hs := hs3; have hzz := hz3
    clear hs3 hz3
    by_cases hy : y = 0
    case pos =>
     subst hy
     clear hy1
     rcases (show k = 0 \/ k = 1 \/ k = 2 by omega) with rfl | rfl | rfl
     all_goals
      go_wp2_with fail
      have hb_ : Below w3.heap.size w3 (w3.alloc (.cells #[.int .i64 1, .int .i64 (p - 1)] 2)) := bwT
      have hb : OwnI (w3.alloc (.cells #[.int .i64 1, .int .i64 (p - 1)] 2)) w3.heap.size w3.heap.size 2 2 ([1, p - 1] : List Int) := OwnI.lit (Nat.le_refl _) [1, p - 1] (by simp)
      obtain ⟨w4, hW_⟩ : ∃ x, x = (w3.alloc (.cells #[.int .i64 1, .int .i64 (p - 1)] 2)) := ⟨_, rfl⟩
      rw [<- hW_] at hb_ hb ⊢; clear hW_
      have hs := hs.below hb_; have hc := hc.bl (hb_.mono hc.size); have hx := hx.below hb_
      refine (spick_c (g := w3.heap.size) (cap := 2) hs hb (by omega) (by simp) (by simp)).mono ?_; rintro e w5 ⟨z, rfl, _, hs, hc_, hz_⟩
      have hc := hc.trans hc_; have hx := hx.chg hc_ (.inr (by omega))
      clear hc_ hz_ hb hb_
      have oh1 := hx.hold (i := 1) (by decide); have of1 := hx.free 1; have oh2 := hx.hold (i := 2) (by decide); have of2 := hx.free 2; have oh4 := hx.hold (i := 4) (by decide); have of4 := hx.free 4
      go_wp2_with fail
      go_meet
      case rel => exact drx_fin (by simp) hx hs hc (by omega) z
    have hyb : (y == 0) = false := by simpa using hy
    by_cases hy1_ : y = 1
    case pos =>
     subst hy1_
     clear hy1
     go_upto_region 12 with fail
     refine @region_tz ⟨q, q + 1⟩ _ (.pre [(0, 0), (1, 0), (2, 0), (3, 1), (4, 0), (9, 0), (10, 0), (11, 1), (12, 0)] (.two 5 5 (.two 6 5 (.lin [(false, [(7, 0), (8, 0), (13, 5)]), (false, [(14, 4), (15, 0), (16, 4)])]) 13 5 (.lin [(false, [(6, 5)]), (false, [(7, 0), (8, 0), (14, 4), (15, 0), (16, 4)])])) 13 5 (.lin [(false, [(5, 5)]), (false, [(6, 5)]), (false, [(7, 0), (8, 0), (14, 4), (15, 0), (16, 4)])]))) _ _ _ _ _ (by kernel_rfl) ?_
     have hcq : Chg q (q + 1) w3.drew w3.drew := Chg.refl
     have hbq : Below w3.heap.size w3 w3.drew := bwT
     have hs := hs.below hbq; have hx := hx.below hbq; have hc := hc.bl (hbq.mono hc.size); have hzz : wr.heap.size + 1 <= w3.drew.heap.size := hzz; have hld := hld.below hbq
     clear hbq
     generalize w3.drew = wq at *
     have e0 := hld.c0; have e1 := hld.c1
     refine norm_K fun K hK => ?_
     change wpList _ _ _ [_, _, _, _, _, _, _, _, _] _ _
     go_wp2_with fail
     first | (refine hK _ _ ⟨⟨rfl, ?_⟩, ?_⟩; clear hK K) | refine ⟨⟨rfl, ?_⟩, ?_⟩
     ·repeat' (first | exact trivial | exact ⟨_, rfl, HLT.out, _, _, _, hld⟩ | refine And.intro ?_ ?_)
     refine ⟨?_, ?_⟩
     ·skip
      refine norm_K fun K hK => ?_
      change wpList _ _ _ [_] _ _
      go_wp2_with fail
      first | (refine hK _ _ ⟨hcq, ?_⟩; clear hK K) | refine ⟨hcq, ?_⟩
      refine ⟨?_, ?_⟩
      ·skip
       refine norm_K fun K hK => ?_
       change wpList _ _ _ [_] _ _
       go_wp2_with fail
       refine (snext_c hs (by decide) (by decide)).mono ?_; rintro e v1 ⟨y2, rfl, hy20, hy21, hs, hc_, hz_⟩
       have hc := hc.trans hc_; have hcq := hcq.trans hc_; have hx := hx.chg hc_ (.inr (by omega)); have hzz := Nat.le_trans hzz hc_.size
       clear hc_ hz_
       rcases (show y2 = 0 \/ y2 = 1 \/ y2 = 2 by omega) with rfl | rfl | rfl
       all_goals
        go_wp2_with fail
        first | (refine hK _ _ ⟨hcq, ?_⟩; clear hK K) | refine ⟨hcq, ?_⟩
        refine norm_K fun K hK => ?_
        change wpList _ _ _ [_, _, _] _ _
        go_wp2_with fail
        have hb_ : Below v1.heap.size v1 (v1.alloc (.cells #[.int .i64 1, .int .i64 (p - 1)] 2)) := bwT
        have hb : OwnI (v1.alloc (.cells #[.int .i64 1, .int .i64 (p - 1)] 2)) v1.heap.size v1.heap.size 2 2 ([1, p - 1] : List Int) := OwnI.lit (Nat.le_refl _) [1, p - 1] (by simp)
        obtain ⟨g_, hg_⟩ : ∃ g_, g_ = v1.heap.size := ⟨_, rfl⟩
        have hgl : wr.heap.size + 1 <= g_ := by omega
        obtain ⟨v2, hW_⟩ : ∃ x, x = (v1.alloc (.cells #[.int .i64 1, .int .i64 (p - 1)] 2)) := ⟨_, rfl⟩
        rw [<- hg_] at hb ⊢; rw [<- hW_] at hb_ hb ⊢; clear hW_ hg_
        have hs := hs.below hb_; have hc := hc.bl (hb_.mono hc.size); have hcq := hcq.bl (hb_.mono hcq.size); have hx := hx.below hb_; have hzz := Nat.le_trans hzz hb_.size
        clear hb_
        go_wp2_with fail
        first | (refine hK _ _ ⟨hcq, ?_⟩; clear hK K) | refine ⟨hcq, ?_⟩
        refine norm_K fun K hK => ?_
        change wpList _ _ _ [_, _, _] _ _
        go_wp2_with fail
        refine (spick_c (g := g_) (cap := 2) hs hb (by omega) (by simp) (by simp)).mono ?_; rintro e v3 ⟨z, rfl, _, hs, hc_, hz_⟩
        have hc := hc.trans hc_; have hcq := hcq.trans hc_; have hx := hx.chg hc_ (.inr (by omega)); have hzz := Nat.le_trans hzz hc_.size
        clear hc_ hz_ hb
        have oh1 := hx.hold (i := 1) (by decide); have of1 := hx.free 1; have oh2 := hx.hold (i := 2) (by decide); have of2 := hx.free 2; have oh4 := hx.hold (i := 4) (by decide); have of4 := hx.free 4
        go_wp2_with fail
        first | (refine hK _ _ ⟨⟨rfl, ?_⟩, ?_⟩; clear hK K) | refine ⟨⟨rfl, ?_⟩, ?_⟩
        ·repeat' (first | exact trivial | exact ⟨_, rfl, HLT.out, _, _, _, hld⟩ | refine And.intro ?_ ?_)
        go_wp2_with fail
        go_meet
        case rel => exact drx_fin (by simp) hx hs hc (by omega) z
      ·skip
       refine norm_K fun K hK => ?_
       change wpList _ _ _ [_] _ _
       go_wp2_with fail
       have hb_ : Below wq.heap.size wq (wq.alloc (.cells #[.int .i64 1, .int .i64 (p - 1)] 2)) := bwT
       have hb : OwnI (wq.alloc (.cells #[.int .i64 1, .int .i64 (p - 1)] 2)) wq.heap.size wq.heap.size 2 2 ([1, p - 1] : List Int) := OwnI.lit (Nat.le_refl _) [1, p - 1] (by simp)
       obtain ⟨g_, hg_⟩ : ∃ g_, g_ = wq.heap.size := ⟨_, rfl⟩
       have hgl : wr.heap.size + 1 <= g_ := by omega
       obtain ⟨v4, hW_⟩ : ∃ x, x = (wq.alloc (.cells #[.int .i64 1, .int .i64 (p - 1)] 2)) := ⟨_, rfl⟩
       rw [<- hg_] at hb ⊢; rw [<- hW_] at hb_ hb ⊢; clear hW_ hg_
       have hs := hs.below hb_; have hc := hc.bl (hb_.mono hc.size); have hcq := hcq.bl (hb_.mono hcq.size); have hx := hx.below hb_; have hzz := Nat.le_trans hzz hb_.size
       clear hb_
       go_wp2_with fail
       first | (refine hK _ _ ⟨hcq, ?_⟩; clear hK K) | refine ⟨hcq, ?_⟩
       refine norm_K fun K hK => ?_
       change wpList _ _ _ [_] _ _
       go_wp2_with fail
       refine (snext_c hs (by decide) (by decide)).mono ?_; rintro e v5 ⟨y2, rfl, hy20, hy21, hs, hc_, hz_⟩
       have hc := hc.trans hc_; have hcq := hcq.trans hc_; have hx := hx.chg hc_ (.inr (by omega)); have hzz := Nat.le_trans hzz hc_.size
       have hb := hb.chg hc_ (.inr (by omega))
       clear hc_ hz_
       rcases (show y2 = 0 \/ y2 = 1 \/ y2 = 2 by omega) with rfl | rfl | rfl
       all_goals
        go_wp2_with fail
        first | (refine hK _ _ ⟨hcq, ?_⟩; clear hK K) | refine ⟨hcq, ?_⟩
        refine norm_K fun K hK => ?_
        change wpList _ _ _ [_, _, _, _, _] _ _
        go_wp2_with fail
        refine (spick_c (g := g_) (cap := 2) hs hb (by omega) (by simp) (by simp)).mono ?_; rintro e v6 ⟨z, rfl, _, hs, hc_, hz_⟩
        have hc := hc.trans hc_; have hcq := hcq.trans hc_; have hx := hx.chg hc_ (.inr (by omega)); have hzz := Nat.le_trans hzz hc_.size
        clear hc_ hz_ hb
        have oh1 := hx.hold (i := 1) (by decide); have of1 := hx.free 1; have oh2 := hx.hold (i := 2) (by decide); have of2 := hx.free 2; have oh4 := hx.hold (i := 4) (by decide); have of4 := hx.free 4
        go_wp2_with fail
        first | (refine hK _ _ ⟨⟨rfl, ?_⟩, ?_⟩; clear hK K) | refine ⟨⟨rfl, ?_⟩, ?_⟩
        ·repeat' (first | exact trivial | exact ⟨_, rfl, HLT.out, _, _, _, hld⟩ | refine And.intro ?_ ?_)
        go_wp2_with fail
        go_meet
        case rel => exact drx_fin (by simp) hx hs hc (by omega) z
     ·skip
      refine norm_K fun K hK => ?_
      change wpList _ _ _ [_] _ _
      go_wp2_with fail
      have hb_ : Below wq.heap.size wq (wq.alloc (.cells #[.int .i64 1, .int .i64 (p - 1)] 2)) := bwT
      have hb : OwnI (wq.alloc (.cells #[.int .i64 1, .int .i64 (p - 1)] 2)) wq.heap.size wq.heap.size 2 2 ([1, p - 1] : List Int) := OwnI.lit (Nat.le_refl _) [1, p - 1] (by simp)
      obtain ⟨g_, hg_⟩ : ∃ g_, g_ = wq.heap.size := ⟨_, rfl⟩
      have hgl : wr.heap.size + 1 <= g_ := by omega
      obtain ⟨v7, hW_⟩ : ∃ x, x = (wq.alloc (.cells #[.int .i64 1, .int .i64 (p - 1)] 2)) := ⟨_, rfl⟩
      rw [<- hg_] at hb ⊢; rw [<- hW_] at hb_ hb ⊢; clear hW_ hg_
      have hs := hs.below hb_; have hc := hc.bl (hb_.mono hc.size); have hcq := hcq.bl (hb_.mono hcq.size); have hx := hx.below hb_; have hzz := Nat.le_trans hzz hb_.size
      clear hb_
      go_wp2_with fail
      first | (refine hK _ _ ⟨hcq, ?_⟩; clear hK K) | refine ⟨hcq, ?_⟩
      refine norm_K fun K hK => ?_
      change wpList _ _ _ [_] _ _
      go_wp2_with fail
      first | (refine hK _ _ ⟨hcq, ?_⟩; clear hK K) | refine ⟨hcq, ?_⟩
      refine norm_K fun K hK => ?_
      change wpList _ _ _ [_] _ _
      go_wp2_with fail
      refine (snext_c hs (by decide) (by decide)).mono ?_; rintro e v8 ⟨y2, rfl, hy20, hy21, hs, hc_, hz_⟩
      have hc := hc.trans hc_; have hcq := hcq.trans hc_; have hx := hx.chg hc_ (.inr (by omega)); have hzz := Nat.le_trans hzz hc_.size
      have hb := hb.chg hc_ (.inr (by omega))
      clear hc_ hz_
      rcases (show y2 = 0 \/ y2 = 1 \/ y2 = 2 by omega) with rfl | rfl | rfl
      all_goals
       go_wp2_with fail
       first | (refine hK _ _ ⟨hcq, ?_⟩; clear hK K) | refine ⟨hcq, ?_⟩
       refine norm_K fun K hK => ?_
       change wpList _ _ _ [_, _, _, _, _] _ _
       go_wp2_with fail
       refine (spick_c (g := g_) (cap := 2) hs hb (by omega) (by simp) (by simp)).mono ?_; rintro e v9 ⟨z, rfl, _, hs, hc_, hz_⟩
       have hc := hc.trans hc_; have hcq := hcq.trans hc_; have hx := hx.chg hc_ (.inr (by omega)); have hzz := Nat.le_trans hzz hc_.size
       clear hc_ hz_ hb
       have oh1 := hx.hold (i := 1) (by decide); have of1 := hx.free 1; have oh2 := hx.hold (i := 2) (by decide); have of2 := hx.free 2; have oh4 := hx.hold (i := 4) (by decide); have of4 := hx.free 4
       go_wp2_with fail
       first | (refine hK _ _ ⟨⟨rfl, ?_⟩, ?_⟩; clear hK K) | refine ⟨⟨rfl, ?_⟩, ?_⟩
       ·repeat' (first | exact trivial | exact ⟨_, rfl, HLT.out, _, _, _, hld⟩ | refine And.intro ?_ ?_)
       go_wp2_with fail
       go_meet
       case rel => exact drx_fin (by simp) hx hs hc (by omega) z
    have hyb1 : (y == 1) = false := by simpa using hy1_
    clear hy1
    go_upto_region 8 with fail
    refine @region_tz ⟨q, q + 1⟩ _ (.pre [(0, 0), (1, 0), (2, 0), (3, 0), (6, 0), (7, 0), (8, 1), (9, 0)] (.two 4 5 (.lin [(false, [(5, 0), (10, 5)]), (false, [(11, 4), (12, 0), (13, 4)])]) 10 5 (.lin [(false, [(4, 5)]), (false, [(5, 0), (11, 4), (12, 0), (13, 4)])]))) _ _ _ _ _ (by kernel_rfl) ?_
    have hcq : Chg q (q + 1) w3.drew w3.drew := Chg.refl
    have hbq : Below w3.heap.size w3 w3.drew := bwT
    have hs := hs.below hbq; have hx := hx.below hbq; have hc := hc.bl (hbq.mono hc.size); have hzz : wr.heap.size + 1 <= w3.drew.heap.size := hzz; have hld := hld.below hbq
    clear hbq
    generalize w3.drew = wq at *
    have e0 := hld.c0; have e1 := hld.c1
    refine norm_K fun K hK => ?_
    change wpList _ _ _ [_, _, _, _, _, _, _, _] _ _
    go_wp2_with fail
    first | (refine hK _ _ ⟨⟨rfl, ?_⟩, ?_⟩; clear hK K) | refine ⟨⟨rfl, ?_⟩, ?_⟩
    ·repeat' (first | exact trivial | exact ⟨_, rfl, HLT.out, _, _, _, hld⟩ | refine And.intro ?_ ?_)
    refine ⟨?_, ?_⟩
    ·skip
     refine norm_K fun K hK => ?_
     change wpList _ _ _ [_] _ _
     go_wp2_with fail
     refine (snext_c hs (by decide) (by decide)).mono ?_; rintro e v10 ⟨y3, rfl, hy30, hy31, hs, hc_, hz_⟩
     have hc := hc.trans hc_; have hcq := hcq.trans hc_; have hx := hx.chg hc_ (.inr (by omega)); have hzz := Nat.le_trans hzz hc_.size
     clear hc_ hz_
     have hy32 : y3 < 7 := by omega
     go_wp2_with fail
     first | (refine hK _ _ ⟨hcq, ?_⟩; clear hK K) | refine ⟨hcq, ?_⟩
     refine norm_K fun K hK => ?_
     change wpList _ _ _ [_, _] _ _
     go_wp2_with fail
     have hb_ : Below v10.heap.size v10 (v10.alloc (.cells #[.int .i64 1, .int .i64 1, .int .i64 (p - 1)] 2)) := bwT
     have hb : OwnI (v10.alloc (.cells #[.int .i64 1, .int .i64 1, .int .i64 (p - 1)] 2)) v10.heap.size v10.heap.size 3 3 ([1, 1, p - 1] : List Int) := OwnI.lit (Nat.le_refl _) [1, 1, p - 1] (by simp)
     obtain ⟨g_, hg_⟩ : ∃ g_, g_ = v10.heap.size := ⟨_, rfl⟩
     have hgl : wr.heap.size + 1 <= g_ := by omega
     obtain ⟨v11, hW_⟩ : ∃ x, x = (v10.alloc (.cells #[.int .i64 1, .int .i64 1, .int .i64 (p - 1)] 2)) := ⟨_, rfl⟩
     rw [<- hg_] at hb ⊢; rw [<- hW_] at hb_ hb ⊢; clear hW_ hg_
     have hs := hs.below hb_; have hc := hc.bl (hb_.mono hc.size); have hcq := hcq.bl (hb_.mono hcq.size); have hx := hx.below hb_; have hzz := Nat.le_trans hzz hb_.size
     clear hb_
     go_wp2_with fail
     first | (refine hK _ _ ⟨hcq, ?_⟩; clear hK K) | refine ⟨hcq, ?_⟩
     refine norm_K fun K hK => ?_
     change wpList _ _ _ [_, _, _] _ _
     go_wp2_with fail
     refine (spick_c (g := g_) (cap := 3) hs hb (by omega) (by simp) (by simp)).mono ?_; rintro e v12 ⟨z, rfl, _, hs, hc_, hz_⟩
     have hc := hc.trans hc_; have hcq := hcq.trans hc_; have hx := hx.chg hc_ (.inr (by omega)); have hzz := Nat.le_trans hzz hc_.size
     clear hc_ hz_ hb
     have oh := hx.hold (i := (1 + y3).toNat) (by omega); have of := hx.free (1 + y3).toNat
     go_wp2_with fail
     first | (refine hK _ _ ⟨⟨rfl, ?_⟩, ?_⟩; clear hK K) | refine ⟨⟨rfl, ?_⟩, ?_⟩
     ·repeat' (first | exact trivial | exact ⟨_, rfl, HLT.out, _, _, _, hld⟩ | refine And.intro ?_ ?_)
     go_wp2_with fail
     go_meet
     case rel => exact drx_fin (by simp) hx hs hc (by omega) z
    ·skip
     refine norm_K fun K hK => ?_
     change wpList _ _ _ [_] _ _
     go_wp2_with fail
     have hb_ : Below wq.heap.size wq (wq.alloc (.cells #[.int .i64 1, .int .i64 1, .int .i64 (p - 1)] 2)) := bwT
     have hb : OwnI (wq.alloc (.cells #[.int .i64 1, .int .i64 1, .int .i64 (p - 1)] 2)) wq.heap.size wq.heap.size 3 3 ([1, 1, p - 1] : List Int) := OwnI.lit (Nat.le_refl _) [1, 1, p - 1] (by simp)
     obtain ⟨g_, hg_⟩ : ∃ g_, g_ = wq.heap.size := ⟨_, rfl⟩
     have hgl : wr.heap.size + 1 <= g_ := by omega
     obtain ⟨v13, hW_⟩ : ∃ x, x = (wq.alloc (.cells #[.int .i64 1, .int .i64 1, .int .i64 (p - 1)] 2)) := ⟨_, rfl⟩
     rw [<- hg_] at hb ⊢; rw [<- hW_] at hb_ hb ⊢; clear hW_ hg_
     have hs := hs.below hb_; have hc := hc.bl (hb_.mono hc.size); have hcq := hcq.bl (hb_.mono hcq.size); have hx := hx.below hb_; have hzz := Nat.le_trans hzz hb_.size
     clear hb_
     go_wp2_with fail
     first | (refine hK _ _ ⟨hcq, ?_⟩; clear hK K) | refine ⟨hcq, ?_⟩
     refine norm_K fun K hK => ?_
     change wpList _ _ _ [_] _ _
     go_wp2_with fail
     refine (snext_c hs (by decide) (by decide)).mono ?_; rintro e v14 ⟨y3, rfl, hy30, hy31, hs, hc_, hz_⟩
     have hc := hc.trans hc_; have hcq := hcq.trans hc_; have hx := hx.chg hc_ (.inr (by omega)); have hzz := Nat.le_trans hzz hc_.size
     have hb := hb.chg hc_ (.inr (by omega))
     clear hc_ hz_
     have hy32 : y3 < 7 := by omega
     go_wp2_with fail
     first | (refine hK _ _ ⟨hcq, ?_⟩; clear hK K) | refine ⟨hcq, ?_⟩
     refine norm_K fun K hK => ?_
     change wpList _ _ _ [_, _, _, _] _ _
     go_wp2_with fail
     refine (spick_c (g := g_) (cap := 3) hs hb (by omega) (by simp) (by simp)).mono ?_; rintro e v15 ⟨z, rfl, _, hs, hc_, hz_⟩
     have hc := hc.trans hc_; have hcq := hcq.trans hc_; have hx := hx.chg hc_ (.inr (by omega)); have hzz := Nat.le_trans hzz hc_.size
     clear hc_ hz_ hb
     have oh := hx.hold (i := (1 + y3).toNat) (by omega); have of := hx.free (1 + y3).toNat
     go_wp2_with fail
     first | (refine hK _ _ ⟨⟨rfl, ?_⟩, ?_⟩; clear hK K) | refine ⟨⟨rfl, ?_⟩, ?_⟩
     ·repeat' (first | exact trivial | exact ⟨_, rfl, HLT.out, _, _, _, hld⟩ | refine And.intro ?_ ?_)
     go_wp2_with fail
     go_meet
     case rel => exact drx_fin (by simp) hx hs hc (by omega) z
   case' rest => skip
   obtain ⟨ys, hyl, hx, hs5, hc5⟩ := hcut
   have hzn := hl.fresh hx.fr.elr
   have hl5 := hl.chg hc5 (by omega); have hd5 := hd.chg hc5 (.inr (by omega)); have hcw5 := hcw.trans hc5
   have hz5 := hc5.size
   have hE := hx.fr.elr
   have HYL := Lib.hid hyl
   clear hl hd hcw hx hc hd3 hs3 hs hyl e0 e1 hlt1 hlt2 hy0 hy1
   go_wp2_with (at_builtin; refine appr_one rfl _ _ rfl wc (w.heap.size + 1) _ rfl (.slice ab us.length cb) us rfl (.slice (some ⟨wr.heap.size, 0, none⟩) 8 8) 1 rfl rfl hl5.own (by omega) (by have := HXL.out; omega) ?_; intro g' cap' w8 hown' hgb' hg' hge)
   have hl8 := hl5.snoc (hE.more (by omega)) hzn (nv := .slice (some ⟨g', 0, none⟩) (us.length + 1) cap') rfl hown' hgb' hg' hge
   go_roundw
   case rel => exact ⟨k + 1, _, _, by omega, by go_num, by rw [List.length_append, HXL.out.1]; rfl, leN_snoc h16 (by rw [HYL.out]; decide), hl8, hd5.bl hgb' (by omega), hs5.bl hgb' (by omega), hcw5.bl (hgb'.mono (by omega)), by have := hgb'.size; omega⟩
   case measure => simp [intOf]; omega
  ·obtain rfl : k = 3 := by omega
   go_wp2_with fail
   go_ret
   exact ⟨_, us, xss, rfl, HXL.out.1, h16, hl.more (by omega), hs, hcw⟩
set_option maxHeartbeats 16000000 in
set_option maxRecDepth 100000 in
theorem sdrawim4_c {q c : Nat} {p : Int} {a : Option Addr} {w : World} (hs : Src w q) (hcap : 4 <= c) (hcb : c <= 9223372036854775807) (hp0 : 0 <= p) (hp1 : p <= 17) :
  Calls Tryz.prog 42 #[.pointer (some ⟨q, 0, none⟩), .agg #[.int .i64 p, .slice a 4 c]] w fun e w' => DrI w q 4 e w' := by
 have hq := hs.lt
 have HLT := Lib.hid (show w.heap.size < q \/ q + 1 <= w.heap.size by omega)
 go_enter Tryz.func42, Tryz.ntmps42
 go_wp2_with fail
 obtain ⟨W1, hW1⟩ : ∃ x, x = ((w.alloc (.cells #[.int .i64 p, .slice a 4 c] 26)).alloc (.cells #[] 24)) := ⟨_, rfl⟩
 have hb1 : Below w.heap.size w W1 := by rw [hW1]; exact bwT
 have hz1 : W1.heap.size = w.heap.size + 1 + 1 := by rw [hW1]; simp
 have hl : LsR W1 (w.heap.size + 1) (.slice (some ⟨w.heap.size + 1, 0, none⟩) 0 0) [] [] := by
  rw [hW1]
  have h := LsR.new (w := (w.alloc (.cells #[.int .i64 p, .slice a 4 c] 26))) (B := w.heap.size + 1) (by simp)
  simpa using h
 have hd : Bd W1 w.heap.size (.int .i64 p) (.slice a 4 c) := by rw [hW1]; exact Bd.below (heap_alloc_new w _) bwT
 rw [<- hW1]; clear hW1
 have e0 := hd.c0; have e1 := hd.c1
 go_wp2_with fail
 refine (ssize_c (by decide)).mono ?_; rintro e w2 ⟨rfl, hb2⟩
 rw [show ((sz 4 : Nat) : Int) = 16 from rfl]
 have hs := (hs.bl hb1 hq).below hb2; have hl := hl.below hb2; have hd := hd.below hb2
 have hcw : Chg q (q + 1) w w2 := (Chg.refl.bl hb1).bl (hb2.mono (by omega))
 have hzz : w.heap.size + 1 <= w2.heap.size := by have := hb2.size; omega
 clear hb1 hz1 hb2 e0 e1
 go_wp2_with fail
 go_loopw [5, 7] (fun ov iv wr => ∃ (k : Nat) (us : List Value) (xss : List (List Int)), k <= 4 /\ iv = .int .i64 k /\ xss.length = k /\ (∀ xs ∈ xss, xs.length <= 16) /\ LsR wr (w.heap.size + 1) ov us xss /\ Bd wr w.heap.size (.int .i64 p) (.slice a 4 c) /\ Src wr q /\ Chg q (q + 1) w wr /\ w.heap.size + 1 <= wr.heap.size) (fun _ iv _ => 4 - (intOf iv).toNat)
 case atStart => exact ⟨0, _, [], by omega, rfl, rfl, by simp, hl, hd, hs, hcw, hzz⟩
 case round =>
  clear hs hl hd hcw hzz
  obtain ⟨k, us, xss, hk, rfl, hXl, h16, hl, hd, hs, hcw, hzz⟩ := hrel
  obtain ⟨ab, cb, rfl⟩ := hl.form
  have HXL := Lib.hid (And.intro hXl hl.len); clear hXl
  have e0 := hd.c0; have e1 := hd.c1
  by_cases hlt : k < 4
  ·have hlt1 : (k : Int) < 4 := by omega
   have hlt2 : (k : Int) < 4 := by omega
   have hx := made_own (W := wr) (n := 16) (by decide)
   have hbx : Below wr.heap.size wr (wr.alloc (.cells (madeCells #[Value.int .i64 0] 16) 2)) := bwT
   have hzx : wr.heap.size + 1 <= (wr.alloc (.cells (madeCells #[Value.int .i64 0] 16) 2)).heap.size := by simp
   have hs7 := hs.below hbx; have hc7 : Chg q (q + 1) wr (wr.alloc (.cells (madeCells #[Value.int .i64 0] 16) 2)) := Chg.refl.bl hbx
   have hqr : q + 1 <= wr.heap.size := by omega
   have hmk : ∀ W : World, Sem.run Tryz.prog (Instr.makeSlice 24 (.int .i64 16) (.int .i64 16)) W = _ := fun W => run_make_row' (P := Tryz.prog) 24 2 (.int .i64 0) 8 Tryz.underlying24 infoI rfl .i64 .i64 16 (by omega) (by omega) W
   go_wp2_with fail
   clear hmk
   generalize wr.alloc (.cells (madeCells #[Value.int .i64 0] 16) 2) = W7 at *
   refine (snext_c hs7 (by decide) (by decide)).mono ?_; rintro e w3 ⟨y, rfl, hy0, hy1, hs3, hc3, hz3_⟩
   have hx := hx.chg hc3 (.inr (by omega)); have hc := hc7.trans hc3; have hz3 : wr.heap.size + 1 <= w3.heap.size := by omega
   have hd3 := hd.chg hc (.inr (by omega))
   clear hc3 hc7 hs7 hbx hzx hz3_
   go_upto_block 2 with fail
   go_cut [] (fun wx => DrX wr q 16 wx)
   case first =>
    have hld := hd3; have e0 := hd3.c0; have e1 := hd3.c1
    have hs := hs3; have hzz := hz3
    clear hs3 hz3
    by_cases hy : y = 0
    case pos =>
     subst hy
     clear hy1
     rcases (show k = 0 \/ k = 1 \/ k = 2 \/ k = 3 by omega) with rfl | rfl | rfl | rfl
     all_goals
      go_wp2_with fail
      have hb_ : Below w3.heap.size w3 (w3.alloc (.cells #[.int .i64 1, .int .i64 (p - 1)] 2)) := bwT
      have hb : OwnI (w3.alloc (.cells #[.int .i64 1, .int .i64 (p - 1)] 2)) w3.heap.size w3.heap.size 2 2 ([1, p - 1] : List Int) := OwnI.lit (Nat.le_refl _) [1, p - 1] (by simp)
      obtain ⟨w4, hW_⟩ : ∃ x, x = (w3.alloc (.cells #[.int .i64 1, .int .i64 (p - 1)] 2)) := ⟨_, rfl⟩
      rw [<- hW_] at hb_ hb ⊢; clear hW_
      have hs := hs.below hb_; have hc := hc.bl (hb_.mono hc.size); have hx := hx.below hb_
      refine (spick_c (g := w3.heap.size) (cap := 2) hs hb (by omega) (by simp) (by simp)).mono ?_; rintro e w5 ⟨z, rfl, _, hs, hc_, hz_⟩
      have hc := hc.trans hc_; have hx := hx.chg hc_ (.inr (by omega))
      clear hc_ hz_ hb hb_
      have oh1 := hx.hold (i := 1) (by decide); have of1 := hx.free 1; have oh2 := hx.hold (i := 2) (by decide); have of2 := hx.free 2; have oh4 := hx.hold (i := 4) (by decide); have of4 := hx.free 4; have oh8 := hx.hold (i := 8) (by decide); have of8 := hx.free 8
      go_wp2_with fail
      go_meet
      case rel => exact drx_fin (by simp) hx hs hc (by omega) z
    have hyb : (y == 0) = false := by simpa using hy
    by_cases hy1_ : y = 1
    case pos =>
     subst hy1_
     clear hy1
     go_upto_region 12 with fail
     refine @region_tz ⟨q, q + 1⟩ _ (.pre [(0, 0), (1, 0), (2, 0), (3, 1), (4, 0), (9, 0), (10, 0), (11, 1), (12, 0)] (.two 5 5 (.two 6 5 (.lin [(false, [(7, 0), (8, 0), (13, 5)]), (false, [(14, 4), (15, 0), (16, 4)])]) 13 5 (.lin [(false, [(6, 5)]), (false, [(7, 0), (8, 0), (14, 4), (15, 0), (16, 4)])])) 13 5 (.lin [(false, [(5, 5)]), (false, [(6, 5)]), (false, [(7, 0), (8, 0), (14, 4), (15, 0), (16, 4)])]))) _ _ _ _ _ (by kernel_rfl) ?_
     have hcq : Chg q (q + 1) w3.drew w3.drew := Chg.refl
     have hbq : Below w3.heap.size w3 w3.drew := bwT
     have hs := hs.below hbq; have hx := hx.below hbq; have hc := hc.bl (hbq.mono hc.size); have hzz : wr.heap.size + 1 <= w3.drew.heap.size := hzz; have hld := hld.below hbq
     clear hbq
     generalize w3.drew = wq at *
     have e0 := hld.c0; have e1 := hld.c1
     refine norm_K fun K hK => ?_
     change wpList _ _ _ [_, _, _, _, _, _, _, _, _] _ _
     go_wp2_with fail
     first | (refine hK _ _ ⟨⟨rfl, ?_⟩, ?_⟩; clear hK K) | refine ⟨⟨rfl, ?_⟩, ?_⟩
     ·repeat' (first | exact trivial | exact ⟨_, rfl, HLT.out, _, _, _, hld⟩ | refine And.intro ?_ ?_)
     refine ⟨?_, ?_⟩
     ·skip
      refine norm_K fun K hK => ?_
      change wpList _ _ _ [_] _ _
      go_wp2_with fail
      first | (refine hK _ _ ⟨hcq, ?_⟩; clear hK K) | refine ⟨hcq, ?_⟩
      refine ⟨?_, ?_⟩
      ·skip
       refine norm_K fun K hK => ?_
       change wpList _ _ _ [_] _ _
       go_wp2_with fail
       refine (snext_c hs (by decide) (by decide)).mono ?_; rintro e v1 ⟨y2, rfl, hy20, hy21, hs, hc_, hz_⟩
       have hc := hc.trans hc_; have hcq := hcq.trans hc_; have hx := hx.chg hc_ (.inr (by omega)); have hzz := Nat.le_trans hzz hc_.size
       clear hc_ hz_
       rcases (show y2 = 0 \/ y2 = 1 \/ y2 = 2 \/ y2 = 3 by omega) with rfl | rfl | rfl | rfl
       all_goals
        go_wp2_with fail
        first | (refine hK _ _ ⟨hcq, ?_⟩; clear hK K) | refine ⟨hcq, ?_⟩
        refine norm_K fun K hK => ?_
        change wpList _ _ _ [_, _, _] _ _
        go_wp2_with fail
        have hb_ : Below v1.heap.size v1 (v1.alloc (.cells #[.int .i64 1, .int .i64 (p - 1)] 2)) := bwT
        have hb : OwnI (v1.alloc (.cells #[.int .i64 1, .int .i64 (p - 1)] 2)) v1.heap.size v1.heap.size 2 2 ([1, p - 1] : List Int) := OwnI.lit (Nat.le_refl _) [1, p - 1] (by simp)
        obtain ⟨g_, hg_⟩ : ∃ g_, g_ = v1.heap.size := ⟨_, rfl⟩
        have hgl : wr.heap.size + 1 <= g_ := by omega
        obtain ⟨v2, hW_⟩ : ∃ x, x = (v1.alloc (.cells #[.int .i64 1, .int .i64 (p - 1)] 2)) := ⟨_, rfl⟩
        rw [<- hg_] at hb ⊢; rw [<- hW_] at hb_ hb ⊢; clear hW_ hg_
        have hs := hs.below hb_; have hc := hc.bl (hb_.mono hc.size); have hcq := hcq.bl (hb_.mono hcq.size); have hx := hx.below hb_; have hzz := Nat.le_trans hzz hb_.size
        clear hb_
        go_wp2_with fail
        first | (refine hK _ _ ⟨hcq, ?_⟩; clear hK K) | refine ⟨hcq, ?_⟩
        refine norm_K fun K hK => ?_
        change wpList _ _ _ [_, _, _] _ _
        go_wp2_with fail
        refine (spick_c (g := g_) (cap := 2) hs hb (by omega) (by simp) (by simp)).mono ?_; rintro e v3 ⟨z, rfl, _, hs, hc_, hz_⟩
        have hc := hc.trans hc_; have hcq := hcq.trans hc_; have hx := hx.chg hc_ (.inr (by omega)); have hzz := Nat.le_trans hzz hc_.size
        clear hc_ hz_ hb
        have oh1 := hx.hold (i := 1) (by decide); have of1 := hx.free 1; have oh2 := hx.hold (i := 2) (by decide); have of2 := hx.free 2; have oh4 := hx.hold (i := 4) (by decide); have of4 := hx.free 4; have oh8 := hx.hold (i := 8) (by decide); have of8 := hx.free 8
        go_wp2_with fail
        first | (refine hK _ _ ⟨⟨rfl, ?_⟩, ?_⟩; clear hK K) | refine ⟨⟨rfl, ?_⟩, ?_⟩
        ·repeat' (first | exact trivial | exact ⟨_, rfl, HLT.out, _, _, _, hld⟩ | refine And.intro ?_ ?_)
        go_wp2_with fail
        go_meet
        case rel => exact drx_fin (by simp) hx hs hc (by omega) z
      ·skip
       refine norm_K fun K hK => ?_
       change wpList _ _ _ [_] _ _
       go_wp2_with fail
       have hb_ : Below wq.heap.size wq (wq.alloc (.cells #[.int .i64 1, .int .i64 (p - 1)] 2)) := bwT
       have hb : OwnI (wq.alloc (.cells #[.int .i64 1, .int .i64 (p - 1)] 2)) wq.heap.size wq.heap.size 2 2 ([1, p - 1] : List Int) := OwnI.lit (Nat.le_refl _) [1, p - 1] (by simp)
       obtain ⟨g_, hg_⟩ : ∃ g_, g_ = wq.heap.size := ⟨_, rfl⟩
       have hgl : wr.heap.size + 1 <= g_ := by omega
       obtain ⟨v4, hW_⟩ : ∃ x, x = (wq.alloc (.cells #[.int .i64 1, .int .i64 (p - 1)] 2)) := ⟨_, rfl⟩
       rw [<- hg_] at hb ⊢; rw [<- hW_] at hb_ hb ⊢; clear hW_ hg_
       have hs := hs.below hb_; have hc := hc.bl (hb_.mono hc.size); have hcq := hcq.bl (hb_.mono hcq.size); have hx := hx.below hb_; have hzz := Nat.le_trans hzz hb_.size
       clear hb_
       go_wp2_with fail
       first | (refine hK _ _ ⟨hcq, ?_⟩; clear hK K) | refine ⟨hcq, ?_⟩
       refine norm_K fun K hK => ?_
       change wpList _ _ _ [_] _ _
       go_wp2_with fail
       refine (snext_c hs (by decide) (by decide)).mono ?_; rintro e v5 ⟨y2, rfl, hy20, hy21, hs, hc_, hz_⟩
       have hc := hc.trans hc_; have hcq := hcq.trans hc_; have hx := hx.chg hc_ (.inr (by omega)); have hzz := Nat.le_trans hzz hc_.size
       have hb := hb.chg hc_ (.inr (by omega))
       clear hc_ hz_
       rcases (show y2 = 0 \/ y2 = 1 \/ y2 = 2 \/ y2 = 3 by omega) with rfl | rfl | rfl | rfl
       all_goals
        go_wp2_with fail
        first | (refine hK _ _ ⟨hcq, ?_⟩; clear hK K) | refine ⟨hcq, ?_⟩
        refine norm_K fun K hK => ?_
        change wpList _ _ _ [_, _, _, _, _] _ _
        go_wp2_with fail
        refine (spick_c (g := g_) (cap := 2) hs hb (by omega) (by simp) (by simp)).mono ?_; rintro e v6 ⟨z, rfl, _, hs, hc_, hz_⟩
        have hc := hc.trans hc_; have hcq := hcq.trans hc_; have hx := hx.chg hc_ (.inr (by omega)); have hzz := Nat.le_trans hzz hc_.size
        clear hc_ hz_ hb
        have oh1 := hx.hold (i := 1) (by decide); have of1 := hx.free 1; have oh2 := hx.hold (i := 2) (by decide); have of2 := hx.free 2; have oh4 := hx.hold (i := 4) (by decide); have of4 := hx.free 4; have oh8 := hx.hold (i := 8) (by decide); have of8 := hx.free 8
        go_wp2_with fail
        first | (refine hK _ _ ⟨⟨rfl, ?_⟩, ?_⟩; clear hK K) | refine ⟨⟨rfl, ?_⟩, ?_⟩
        ·repeat' (first | exact trivial | exact ⟨_, rfl, HLT.out, _, _, _, hld⟩ | refine And.intro ?_ ?_)
        go_wp2_with fail
        go_meet
        case rel => exact drx_fin (by simp) hx hs hc (by omega) z
     ·skip
      refine norm_K fun K hK => ?_
      change wpList _ _ _ [_] _ _
      go_wp2_with fail
      have hb_ : Below wq.heap.size wq (wq.alloc (.cells #[.int .i64 1, .int .i64 (p - 1)] 2)) := bwT
      have hb : OwnI (wq.alloc (.cells #[.int .i64 1, .int .i64 (p - 1)] 2)) wq.heap.size wq.heap.size 2 2 ([1, p - 1] : List Int) := OwnI.lit (Nat.le_refl _) [1, p - 1] (by simp)
      obtain ⟨g_, hg_⟩ : ∃ g_, g_ = wq.heap.size := ⟨_, rfl⟩
      have hgl : wr.heap.size + 1 <= g_ := by omega
      obtain ⟨v7, hW_⟩ : ∃ x, x = (wq.alloc (.cells #[.int .i64 1, .int .i64 (p - 1)] 2)) := ⟨_, rfl⟩
      rw [<- hg_] at hb ⊢; rw [<- hW_] at hb_ hb ⊢; clear hW_ hg_
      have hs := hs.below hb_; have hc := hc.bl (hb_.mono hc.size); have hcq := hcq.bl (hb_.mono hcq.size); have hx := hx.below hb_; have hzz := Nat.le_trans hzz hb_.size
      clear hb_
      go_wp2_with fail
      first | (refine hK _ _ ⟨hcq, ?_⟩; clear hK K) | refine ⟨hcq, ?_⟩
      refine norm_K fun K hK => ?_
      change wpList _ _ _ [_] _ _
      go_wp2_with fail
      first | (refine hK _ _ ⟨hcq, ?_⟩; clear hK K) | refine ⟨hcq, ?_⟩
      refine norm_K fun K hK => ?_
      change wpList _ _ _ [_] _ _
      go_wp2_with fail
      refine (snext_c hs (by decide) (by decide)).mono ?_; rintro e v8 ⟨y2, rfl, hy20, hy21, hs, hc_, hz_⟩
      have hc := hc.trans hc_; have hcq := hcq.trans hc_; have hx := hx.chg hc_ (.inr (by omega)); have hzz := Nat.le_trans hzz hc_.size
      have hb := hb.chg hc_ (.inr (by omega))
      clear hc_ hz_
      rcases (show y2 = 0 \/ y2 = 1 \/ y2 = 2 \/ y2 = 3 by omega) with rfl | rfl | rfl | rfl
      all_goals
       go_wp2_with fail
       first | (refine hK _ _ ⟨hcq, ?_⟩; clear hK K) | refine ⟨hcq, ?_⟩
       refine norm_K fun K hK => ?_
       change wpList _ _ _ [_, _, _, _, _] _ _
       go_wp2_with fail
       refine (spick_c (g := g_) (cap := 2) hs hb (by omega) (by simp) (by simp)).mono ?_; rintro e v9 ⟨z, rfl, _, hs, hc_, hz_⟩
       have hc := hc.trans hc_; have hcq := hcq.trans hc_; have hx := hx.chg hc_ (.inr (by omega)); have hzz := Nat.le_trans hzz hc_.size
       clear hc_ hz_ hb
       have oh1 := hx.hold (i := 1) (by decide); have of1 := hx.free 1; have oh2 := hx.hold (i := 2) (by decide); have of2 := hx.free 2; have oh4 := hx.hold (i := 4) (by decide); have of4 := hx.free 4; have oh8 := hx.hold (i := 8) (by decide); have of8 := hx.free 8
       go_wp2_with fail
       first | (refine hK _ _ ⟨⟨rfl, ?_⟩, ?_⟩; clear hK K) | refine ⟨⟨rfl, ?_⟩, ?_⟩
       ·repeat' (first | exact trivial | exact ⟨_, rfl, HLT.out, _, _, _, hld⟩ | refine And.intro ?_ ?_)
       go_wp2_with fail
       go_meet
       case rel => exact drx_fin (by simp) hx hs hc (by omega) z
    have hyb1 : (y == 1) = false := by simpa using hy1_
    clear hy1
    go_upto_region 8 with fail
    refine @region_tz ⟨q, q + 1⟩ _ (.pre [(0, 0), (1, 0), (2, 0), (3, 0), (6, 0), (7, 0), (8, 1), (9, 0)] (.two 4 5 (.lin [(false, [(5, 0), (10, 5)]), (false, [(11, 4), (12, 0), (13, 4)])]) 10 5 (.lin [(false, [(4, 5)]), (false, [(5, 0), (11, 4), (12, 0), (13, 4)])]))) _ _ _ _ _ (by kernel_rfl) ?_
    have hcq : Chg q (q + 1) w3.drew w3.drew := Chg.refl
    have hbq : Below w3.heap.size w3 w3.drew := bwT
    have hs := hs.below hbq; have hx := hx.below hbq; have hc := hc.bl (hbq.mono hc.size); have hzz : wr.heap.size + 1 <= w3.drew.heap.size := hzz; have hld := hld.below hbq
    clear hbq
    generalize w3.drew = wq at *
    have e0 := hld.c0; have e1 := hld.c1
    refine norm_K fun K hK => ?_
    change wpList _ _ _ [_, _, _, _, _, _, _, _] _ _
    go_wp2_with fail
    first | (refine hK _ _ ⟨⟨rfl, ?_⟩, ?_⟩; clear hK K) | refine ⟨⟨rfl, ?_⟩, ?_⟩
    ·repeat' (first | exact trivial | exact ⟨_, rfl, HLT.out, _, _, _, hld⟩ | refine And.intro ?_ ?_)
    refine ⟨?_, ?_⟩
    ·skip
     refine norm_K fun K hK => ?_
     change wpList _ _ _ [_] _ _
     go_wp2_with fail
     refine (snext_c hs (by decide) (by decide)).mono ?_; rintro e v10 ⟨y3, rfl, hy30, hy31, hs, hc_, hz_⟩
     have hc := hc.trans hc_; have hcq := hcq.trans hc_; have hx := hx.chg hc_ (.inr (by omega)); have hzz := Nat.le_trans hzz hc_.size
     clear hc_ hz_
     have hy32 : y3 < 15 := by omega
     go_wp2_with fail
     first | (refine hK _ _ ⟨hcq, ?_⟩; clear hK K) | refine ⟨hcq, ?_⟩
     refine norm_K fun K hK => ?_
     change wpList _ _ _ [_, _] _ _
     go_wp2_with fail
     have hb_ : Below v10.heap.size v10 (v10.alloc (.cells #[.int .i64 1, .int .i64 1, .int .i64 (p - 1)] 2)) := bwT
     have hb : OwnI (v10.alloc (.cells #[.int .i64 1, .int .i64 1, .int .i64 (p - 1)] 2)) v10.heap.size v10.heap.size 3 3 ([1, 1, p - 1] : List Int) := OwnI.lit (Nat.le_refl _) [1, 1, p - 1] (by simp)
     obtain ⟨g_, hg_⟩ : ∃ g_, g_ = v10.heap.size := ⟨_, rfl⟩
     have hgl : wr.heap.size + 1 <= g_ := by omega
     obtain ⟨v11, hW_⟩ : ∃ x, x = (v10.alloc (.cells #[.int .i64 1, .int .i64 1, .int .i64 (p - 1)] 2)) := ⟨_, rfl⟩
     rw [<- hg_] at hb ⊢; rw [<- hW_] at hb_ hb ⊢; clear hW_ hg_
     have hs := hs.below hb_; have hc := hc.bl (hb_.mono hc.size); have hcq := hcq.bl (hb_.mono hcq.size); have hx := hx.below hb_; have hzz := Nat.le_trans hzz hb_.size
     clear hb_
     go_wp2_with fail
     first | (refine hK _ _ ⟨hcq, ?_⟩; clear hK K) | refine ⟨hcq, ?_⟩
     refine norm_K fun K hK => ?_
     change wpList _ _ _ [_, _, _] _ _
     go_wp2_with fail
     refine (spick_c (g := g_) (cap := 3) hs hb (by omega) (by simp) (by simp)).mono ?_; rintro e v12 ⟨z, rfl, _, hs, hc_, hz_⟩
     have hc := hc.trans hc_; have hcq := hcq.trans hc_; have hx := hx.chg hc_ (.inr (by omega)); have hzz := Nat.le_trans hzz hc_.size
     clear hc_ hz_ hb
     have oh := hx.hold (i := (1 + y3).toNat) (by omega); have of := hx.free (1 + y3).toNat
     go_wp2_with fail
     first | (refine hK _ _ ⟨⟨rfl, ?_⟩, ?_⟩; clear hK K) | refine ⟨⟨rfl, ?_⟩, ?_⟩
     ·repeat' (first | exact trivial | exact ⟨_, rfl, HLT.out, _, _, _, hld⟩ | refine And.intro ?_ ?_)
     go_wp2_with fail
     go_meet
     case rel => exact drx_fin (by simp) hx hs hc (by omega) z
    ·skip
     refine norm_K fun K hK => ?_
     change wpList _ _ _ [_] _ _
     go_wp2_with fail
     have hb_ : Below wq.heap.size wq (wq.alloc (.cells #[.int .i64 1, .int .i64 1, .int .i64 (p - 1)] 2)) := bwT
     have hb : OwnI (wq.alloc (.cells #[.int .i64 1, .int .i64 1, .int .i64 (p - 1)] 2)) wq.heap.size wq.heap.size 3 3 ([1, 1, p - 1] : List Int) := OwnI.lit (Nat.le_refl _) [1, 1, p - 1] (by simp)
     obtain ⟨g_, hg_⟩ : ∃ g_, g_ = wq.heap.size := ⟨_, rfl⟩
     have hgl : wr.heap.size + 1 <= g_ := by omega
     obtain ⟨v13, hW_⟩ : ∃ x, x = (wq.alloc (.cells #[.int .i64 1, .int .i64 1, .int .i64 (p - 1)] 2)) := ⟨_, rfl⟩
     rw [<- hg_] at hb ⊢; rw [<- hW_] at hb_ hb ⊢; clear hW_ hg_
     have hs := hs.below hb_; have hc := hc.bl (hb_.mono hc.size); have hcq := hcq.bl (hb_.mono hcq.size); have hx := hx.below hb_; have hzz := Nat.le_trans hzz hb_.size
     clear hb_
     go_wp2_with fail
     first | (refine hK _ _ ⟨hcq, ?_⟩; clear hK K) | refine ⟨hcq, ?_⟩
     refine norm_K fun K hK => ?_
     change wpList _ _ _ [_] _ _
     go_wp2_with fail
     refine (snext_c hs (by decide) (by decide)).mono ?_; rintro e v14 ⟨y3, rfl, hy30, hy31, hs, hc_, hz_⟩
     have hc := hc.trans hc_; have hcq := hcq.trans hc_; have hx := hx.chg hc_ (.inr (by omega)); have hzz := Nat.le_trans hzz hc_.size
     have hb := hb.chg hc_ (.inr (by omega))
     clear hc_ hz_
     have hy32 : y3 < 15 := by omega
     go_wp2_with fail
     first | (refine hK _ _ ⟨hcq, ?_⟩; clear hK K) | refine ⟨hcq, ?_⟩
     refine norm_K fun K hK => ?_
     change wpList _ _ _ [_, _, _, _] _ _
     go_wp2_with fail
     refine (spick_c (g := g_) (cap := 3) hs hb (by omega) (by simp) (by simp)).mono ?_; rintro e v15 ⟨z, rfl, _, hs, hc_, hz_⟩
     have hc := hc.trans hc_; have hcq := hcq.trans hc_; have hx := hx.chg hc_ (.inr (by omega)); have hzz := Nat.le_trans hzz hc_.size
     clear hc_ hz_ hb
     have oh := hx.hold (i := (1 + y3).toNat) (by omega); have of := hx.free (1 + y3).toNat
     go_wp2_with fail
     first | (refine hK _ _ ⟨⟨rfl, ?_⟩, ?_⟩; clear hK K) | refine ⟨⟨rfl, ?_⟩, ?_⟩
     ·repeat' (first | exact trivial | exact ⟨_, rfl, HLT.out, _, _, _, hld⟩ | refine And.intro ?_ ?_)
     go_wp2_with fail
     go_meet
     case rel => exact drx_fin (by simp) hx hs hc (by omega) z
   case' rest => skip
   obtain ⟨ys, hyl, hx, hs5, hc5⟩ := hcut
   have hzn := hl.fresh hx.fr.elr
   have hl5 := hl.chg hc5 (by omega); have hd5 := hd.chg hc5 (.inr (by omega)); have hcw5 := hcw.trans hc5
   have hz5 := hc5.size
   have hE := hx.fr.elr
   have HYL := Lib.hid hyl
   clear hl hd hcw hx hc hd3 hs3 hs hyl e0 e1 hlt1 hlt2 hy0 hy1
   go_wp2_with (at_builtin; refine appr_one rfl _ _ rfl wc (w.heap.size + 1) _ rfl (.slice ab us.length cb) us rfl (.slice (some ⟨wr.heap.size, 0, none⟩) 16 16) 1 rfl rfl hl5.own (by omega) (by have := HXL.out; omega) ?_; intro g' cap' w8 hown' hgb' hg' hge)
   have hl8 := hl5.snoc (hE.more (by omega)) hzn (nv := .slice (some ⟨g', 0, none⟩) (us.length + 1) cap') rfl hown' hgb' hg' hge
   go_roundw
   case rel => exact ⟨k + 1, _, _, by omega, by go_num, by rw [List.length_append, HXL.out.1]; rfl, leN_snoc h16 (by rw [HYL.out]; decide), hl8, hd5.bl hgb' (by omega), hs5.bl hgb' (by omega), hcw5.bl (hgb'.mono (by omega)), by have := hgb'.size; omega⟩
   case measure => simp [intOf]; omega
  ·obtain rfl : k = 4 := by omega
   go_wp2_with fail
   go_ret
   exact ⟨_, us, xss, rfl, HXL.out.1, h16, hl.more (by omega), hs, hcw⟩
set_option maxHeartbeats 16000000 in
set_option maxRecDepth 100000 in
theorem sdrawim5_c {q c : Nat} {p : Int} {a : Option Addr} {w : World} (hs : Src w q) (hcap : 5 <= c) (hcb : c <= 9223372036854775807) (hp0 : 0 <= p) (hp1 : p <= 17) :
  Calls Tryz.prog 42 #[.pointer (some ⟨q, 0, none⟩), .agg #[.int .i64 p, .slice a 5 c]] w fun e w' => DrI w q 4 e w' := by
 have hq := hs.lt
 have HLT := Lib.hid (show w.heap.size < q \/ q + 1 <= w.heap.size by omega)
 go_enter Tryz.func42, Tryz.ntmps42
 go_wp2_with fail
 obtain ⟨W1, hW1⟩ : ∃ x, x = ((w.alloc (.cells #[.int .i64 p, .slice a 5 c] 26)).alloc (.cells #[] 24)) := ⟨_, rfl⟩
 have hb1 : Below w.heap.size w W1 := by rw [hW1]; exact bwT
 have hz1 : W1.heap.size = w.heap.size + 1 + 1 := by rw [hW1]; simp
 have hl : LsR W1 (w.heap.size + 1) (.slice (some ⟨w.heap.size + 1, 0, none⟩) 0 0) [] [] := by
  rw [hW1]
  have h := LsR.new (w := (w.alloc (.cells #[.int .i64 p, .slice a 5 c] 26))) (B := w.heap.size + 1) (by simp)
  simpa using h
 have hd : Bd W1 w.heap.size (.int .i64 p) (.slice a 5 c) := by rw [hW1]; exact Bd.below (heap_alloc_new w _) bwT
 rw [<- hW1]; clear hW1
 have e0 := hd.c0; have e1 := hd.c1
 go_wp2_with fail
 refine (ssize_c (by decide)).mono ?_; rintro e w2 ⟨rfl, hb2⟩
 rw [show ((sz 4 : Nat) : Int) = 16 from rfl]
 have hs := (hs.bl hb1 hq).below hb2; have hl := hl.below hb2; have hd := hd.below hb2
 have hcw : Chg q (q + 1) w w2 := (Chg.refl.bl hb1).bl (hb2.mono (by omega))
 have hzz : w.heap.size + 1 <= w2.heap.size := by have := hb2.size; omega
 clear hb1 hz1 hb2 e0 e1
 go_wp2_with fail
 go_loopw [5, 7] (fun ov iv wr => ∃ (k : Nat) (us : List Value) (xss : List (List Int)), k <= 4 /\ iv = .int .i64 k /\ xss.length = k /\ (∀ xs ∈ xss, xs.length <= 16) /\ LsR wr (w.heap.size + 1) ov us xss /\ Bd wr w.heap.size (.int .i64 p) (.slice a 5 c) /\ Src wr q /\ Chg q (q + 1) w wr /\ w.heap.size + 1 <= wr.heap.size) (fun _ iv _ => 4 - (intOf iv).toNat)
 case atStart => exact ⟨0, _, [], by omega, rfl, rfl, by simp, hl, hd, hs, hcw, hzz⟩
 case round =>
  clear hs hl hd hcw hzz
  obtain ⟨k, us, xss, hk, rfl, hXl, h16, hl, hd, hs, hcw, hzz⟩ := hrel
  obtain ⟨ab, cb, rfl⟩ := hl.form
  have HXL := Lib.hid (And.intro hXl hl.len); clear hXl
  have e0 := hd.c0; have e1 := hd.c1
  by_cases hlt : k < 4
  ·have hlt1 : (k : Int) < 5 := by omega
   have hlt2 : (k : Int) < 4 := by omega
   have hx := made_own (W := wr) (n := 16) (by decide)
   have hbx : Below wr.heap.size wr (wr.alloc (.cells (madeCells #[Value.int .i64 0] 16) 2)) := bwT
   have hzx : wr.heap.size + 1 <= (wr.alloc (.cells (madeCells #[Value.int .i64 0] 16) 2)).heap.size := by simp
   have hs7 := hs.below hbx; have hc7 : Chg q (q + 1) wr (wr.alloc (.cells (madeCells #[Value.int .i64 0] 16) 2)) := Chg.refl.bl hbx
   have hqr : q + 1 <= wr.heap.size := by omega
   have hmk : ∀ W : World, Sem.run Tryz.prog (Instr.makeSlice 24 (.int .i64 16) (.int .i64 16)) W = _ := fun W => run_make_row' (P := Tryz.prog) 24 2 (.int .i64 0) 8 Tryz.underlying24 infoI rfl .i64 .i64 16 (by omega) (by omega) W
   go_wp2_with fail
   clear hmk
   generalize wr.alloc (.cells (madeCells #[Value.int .i64 0] 16) 2) = W7 at *
   refine (snext_c hs7 (by decide) (by decide)).mono ?_; rintro e w3 ⟨y, rfl, hy0, hy1, hs3, hc3, hz3_⟩
   have hx := hx.chg hc3 (.inr (by omega)); have hc := hc7.trans hc3; have hz3 : wr.heap.size + 1 <= w3.heap.size := by omega
   have hd3 := hd.chg hc (.inr (by omega))
   clear hc3 hc7 hs7 hbx hzx hz3_
   go_upto_block 2 with fail
   go_cut [] (fun wx => DrX wr q 16 wx)
   case first =>
    have hld := hd3; have e0 := hd3.c0; have e1 := hd3.c1
    have hs := hs3; have hzz := hz3
    clear hs3 hz3
    by_cases hy : y = 0
    case pos =>
     subst hy
     clear hy1
     rcases (show k = 0 \/ k = 1 \/ k = 2 \/ k = 3 by omega) with rfl | rfl | rfl | rfl
     all_goals
      go_wp2_with fail
      have hb_ : Below w3.heap.size w3 (w3.alloc (.cells #[.int .i64 1, .int .i64 (p - 1)] 2)) := bwT
      have hb : OwnI (w3.alloc (.cells #[.int .i64 1, .int .i64 (p - 1)] 2)) w3.heap.size w3.heap.size 2 2 ([1, p - 1] : List Int) := OwnI.lit (Nat.le_refl _) [1, p - 1] (by simp)
      obtain ⟨w4, hW_⟩ : ∃ x, x = (w3.alloc (.cells #[.int .i64 1, .int .i64 (p - 1)] 2)) := ⟨_, rfl⟩
      rw [<- hW_] at hb_ hb ⊢; clear hW_
      have hs := hs.below hb_; have hc := hc.bl (hb_.mono hc.size); have hx := hx.below hb_
      refine (spick_c (g := w3.heap.size) (cap := 2) hs hb (by omega) (by simp) (by simp)).mono ?_; rintro e w5 ⟨z, rfl, _, hs, hc_, hz_⟩
      have hc := hc.trans hc_; have hx := hx.chg hc_ (.inr (by omega))
      clear hc_ hz_ hb hb_
      have oh1 := hx.hold (i := 1) (by decide); have of1 := hx.free 1; have oh2 := hx.hold (i := 2) (by decide); have of2 := hx.free 2; have oh4 := hx.hold (i := 4) (by decide); have of4 := hx.free 4; have oh8 := hx.hold (i := 8) (by decide); have of8 := hx.free 8
      go_wp2_with fail
      go_meet
      case rel => exact drx_fin (by simp) hx hs hc (by omega) z
    have hyb : (y == 0) = false := by simpa using hy
    by_cases hy1_ : y = 1
    case pos =>
     subst hy1_
     clear hy1
     go_upto_region 12 with fail
     refine @region_tz ⟨q, q + 1⟩ _ (.pre [(0, 0), (1, 0), (2, 0), (3, 1), (4, 0), (9, 0), (10, 0), (11, 1), (12, 0)] (.two 5 5 (.two 6 5 (.lin [(false, [(7, 0), (8, 0), (13, 5)]), (false, [(14, 4), (15, 0), (16, 4)])]) 13 5 (.lin [(false, [(6, 5)]), (false, [(7, 0), (8, 0), (14, 4), (15, 0), (16, 4)])])) 13 5 (.lin [(false, [(5, 5)]), (false, [(6, 5)]), (false, [(7, 0), (8, 0), (14, 4), (15, 0), (16, 4)])]))) _ _ _ _ _ (by kernel_rfl) ?_
     have hcq : Chg q (q + 1) w3.drew w3.drew := Chg.refl
     have hbq : Below w3.heap.size w3 w3.drew := bwT
     have hs := hs.below hbq; have hx := hx.below hbq; have hc := hc.bl (hbq.mono hc.size); have hzz : wr.heap.size + 1 <= w3.drew.heap.size := hzz; have hld := hld.below hbq
     clear hbq
     generalize w3.drew = wq at *
     have e0 := hld.c0; have e1 := hld.c1
     refine norm_K fun K hK => ?_
     change wpList _ _ _ [_, _, _, _, _, _, _, _, _] _ _
     go_wp2_with fail
     first | (refine hK _ _ ⟨⟨rfl, ?_⟩, ?_⟩; clear hK K) | refine ⟨⟨rfl, ?_⟩, ?_⟩
     ·repeat' (first | exact trivial | exact ⟨_, rfl, HLT.out, _, _, _, hld⟩ | refine And.intro ?_ ?_)
     refine ⟨?_, ?_⟩
     ·skip
      refine norm_K fun K hK => ?_
      change wpList _ _ _ [_] _ _
      go_wp2_with fail
      first | (refine hK _ _ ⟨hcq, ?_⟩; clear hK K) | refine ⟨hcq, ?_⟩
      refine ⟨?_, ?_⟩
      ·skip
       refine norm_K fun K hK => ?_
       change wpList _ _ _ [_] _ _
       go_wp2_with fail
       refine (snext_c hs (by decide) (by decide)).mono ?_; rintro e v1 ⟨y2, rfl, hy20, hy21, hs, hc_, hz_⟩
       have hc := hc.trans hc_; have hcq := hcq.trans hc_; have hx := hx.chg hc_ (.inr (by omega)); have hzz := Nat.le_trans hzz hc_.size
       clear hc_ hz_
       rcases (show y2 = 0 \/ y2 = 1 \/ y2 = 2 \/ y2 = 3 by omega) with rfl | rfl | rfl | rfl
       all_goals
        go_wp2_with fail
        first | (refine hK _ _ ⟨hcq, ?_⟩; clear hK K) | refine ⟨hcq, ?_⟩
        refine norm_K fun K hK => ?_
        change wpList _ _ _ [_, _, _] _ _
        go_wp2_with fail
        have hb_ : Below v1.heap.size v1 (v1.alloc (.cells #[.int .i64 1, .int .i64 (p - 1)] 2)) := bwT
        have hb : OwnI (v1.alloc (.cells #[.int .i64 1, .int .i64 (p - 1)] 2)) v1.heap.size v1.heap.size 2 2 ([1, p - 1] : List Int) := OwnI.lit (Nat.le_refl _) [1, p - 1] (by simp)
        obtain ⟨g_, hg_⟩ : ∃ g_, g_ = v1.heap.size := ⟨_, rfl⟩
        have hgl : wr.heap.size + 1 <= g_ := by omega
        obtain ⟨v2, hW_⟩ : ∃ x, x = (v1.alloc (.cells #[.int .i64 1, .int .i64 (p - 1)] 2)) := ⟨_, rfl⟩
        rw [<- hg_] at hb ⊢; rw [<- hW_] at hb_ hb ⊢; clear hW_ hg_
        have hs := hs.below hb_; have hc := hc.bl (hb_.mono hc.size); have hcq := hcq.bl (hb_.mono hcq.size); have hx := hx.below hb_; have hzz := Nat.le_trans hzz hb_.size
        clear hb_
        go_wp2_with fail
        first | (refine hK _ _ ⟨hcq, ?_⟩; clear hK K) | refine ⟨hcq, ?_⟩
        refine norm_K fun K hK => ?_
        change wpList _ _ _ [_, _, _] _ _
        go_wp2_with fail
        refine (spick_c (g := g_) (cap := 2) hs hb (by omega) (by simp) (by simp)).mono ?_; rintro e v3 ⟨z, rfl, _, hs, hc_, hz_⟩
        have hc := hc.trans hc_; have hcq := hcq.trans hc_; have hx := hx.chg hc_ (.inr (by omega)); have hzz := Nat.le_trans hzz hc_.size
        clear hc_ hz_ hb
        have oh1 := hx.hold (i := 1) (by decide); have of1 := hx.free 1; have oh2 := hx.hold (i := 2) (by decide); have of2 := hx.free 2; have oh4 := hx.hold (i := 4) (by decide); have of4 := hx.free 4; have oh8 := hx.hold (i := 8) (by decide); have of8 := hx.free 8
        go_wp2_with fail
        first | (refine hK _ _ ⟨⟨rfl, ?_⟩, ?_⟩; clear hK K) | refine ⟨⟨rfl, ?_⟩, ?_⟩
        ·repeat' (first | exact trivial | exact ⟨_, rfl, HLT.out, _, _, _, hld⟩ | refine And.intro ?_ ?_)
        go_wp2_with fail
        go_meet
        case rel => exact drx_fin (by simp) hx hs hc (by omega) z
      ·skip
       refine norm_K fun K hK => ?_
       change wpList _ _ _ [_] _ _
       go_wp2_with fail
       have hb_ : Below wq.heap.size wq (wq.alloc (.cells #[.int .i64 1, .int .i64 (p - 1)] 2)) := bwT
       have hb : OwnI (wq.alloc (.cells #[.int .i64 1, .int .i64 (p - 1)] 2)) wq.heap.size wq.heap.size 2 2 ([1, p - 1] : List Int) := OwnI.lit (Nat.le_refl _) [1, p - 1] (by simp)
       obtain ⟨g_, hg_⟩ : ∃ g_, g_ = wq.heap.size := ⟨_, rfl⟩
       have hgl : wr.heap.size + 1 <= g_ := by omega
       obtain ⟨v4, hW_⟩ : ∃ x, x = (wq.alloc (.cells #[.int .i64 1, .int .i64 (p - 1)] 2)) := ⟨_, rfl⟩
       rw [<- hg_] at hb ⊢; rw [<- hW_] at hb_ hb ⊢; clear hW_ hg_
       have hs := hs.below hb_; have hc := hc.bl (hb_.mono hc.size); have hcq := hcq.bl (hb_.mono hcq.size); have hx := hx.below hb_; have hzz := Nat.le_trans hzz hb_.size
       clear hb_
       go_wp2_with fail
       first | (refine hK _ _ ⟨hcq, ?_⟩; clear hK K) | refine ⟨hcq, ?_⟩
       refine norm_K fun K hK => ?_
       change wpList _ _ _ [_] _ _
       go_wp2_with fail
       refine (snext_c hs (by decide) (by decide)).mono ?_; rintro e v5 ⟨y2, rfl, hy20, hy21, hs, hc_, hz_⟩
       have hc := hc.trans hc_; have hcq := hcq.trans hc_; have hx := hx.chg hc_ (.inr (by omega)); have hzz := Nat.le_trans hzz hc_.size
       have hb := hb.chg hc_ (.inr (by omega))
       clear hc_ hz_
       rcases (show y2 = 0 \/ y2 = 1 \/ y2 = 2 \/ y2 = 3 by omega) with rfl | rfl | rfl | rfl
       all_goals
        go_wp2_with fail
        first | (refine hK _ _ ⟨hcq, ?_⟩; clear hK K) | refine ⟨hcq, ?_⟩
        refine norm_K fun K hK => ?_
        change wpList _ _ _ [_, _, _, _, _] _ _
        go_wp2_with fail
        refine (spick_c (g := g_) (cap := 2) hs hb (by omega) (by simp) (by simp)).mono ?_; rintro e v6 ⟨z, rfl, _, hs, hc_, hz_⟩
        have hc := hc.trans hc_; have hcq := hcq.trans hc_; have hx := hx.chg hc_ (.inr (by omega)); have hzz := Nat.le_trans hzz hc_.size
        clear hc_ hz_ hb
        have oh1 := hx.hold (i := 1) (by decide); have of1 := hx.free 1; have oh2 := hx.hold (i := 2) (by decide); have of2 := hx.free 2; have oh4 := hx.hold (i := 4) (by decide); have of4 := hx.free 4; have oh8 := hx.hold (i := 8) (by decide); have of8 := hx.free 8
        go_wp2_with fail
        first | (refine hK _ _ ⟨⟨rfl, ?_⟩, ?_⟩; clear hK K) | refine ⟨⟨rfl, ?_⟩, ?_⟩
        ·repeat' (first | exact trivial | exact ⟨_, rfl, HLT.out, _, _, _, hld⟩ | refine And.intro ?_ ?_)
        go_wp2_with fail
        go_meet
        case rel => exact drx_fin (by simp) hx hs hc (by omega) z
     ·skip
      refine norm_K fun K hK => ?_
      change wpList _ _ _ [_] _ _
      go_wp2_with fail
      have hb_ : Below wq.heap.size wq (wq.alloc (.cells #[.int .i64 1, .int .i64 (p - 1)] 2)) := bwT
      have hb : OwnI (wq.alloc (.cells #[.int .i64 1, .int .i64 (p - 1)] 2)) wq.heap.size wq.heap.size 2 2 ([1, p - 1] : List Int) := OwnI.lit (Nat.le_refl _) [1, p - 1] (by simp)
      obtain ⟨g_, hg_⟩ : ∃ g_, g_ = wq.heap.size := ⟨_, rfl⟩
      have hgl : wr.heap.size + 1 <= g_ := by omega
      obtain ⟨v7, hW_⟩ : ∃ x, x = (wq.alloc (.cells #[.int .i64 1, .int .i64 (p - 1)] 2)) := ⟨_, rfl⟩
      rw [<- hg_] at hb ⊢; rw [<- hW_] at hb_ hb ⊢; clear hW_ hg_
      have hs := hs.below hb_; have hc := hc.bl (hb_.mono hc.size); have hcq := hcq.bl (hb_.mono hcq.size); have hx := hx.below hb_; have hzz := Nat.le_trans hzz hb_.size
      clear hb_
      go_wp2_with fail
      first | (refine hK _ _ ⟨hcq, ?_⟩; clear hK K) | refine ⟨hcq, ?_⟩
      refine norm_K fun K hK => ?_
      change wpList _ _ _ [_] _ _
      go_wp2_with fail
      first | (refine hK _ _ ⟨hcq, ?_⟩; clear hK K) | refine ⟨hcq, ?_⟩
      refine norm_K fun K hK => ?_
      change wpList _ _ _ [_] _ _
      go_wp2_with fail
      refine (snext_c hs (by decide) (by decide)).mono ?_; rintro e v8 ⟨y2, rfl, hy20, hy21, hs, hc_, hz_⟩
      have hc := hc.trans hc_; have hcq := hcq.trans hc_; have hx := hx.chg hc_ (.inr (by omega)); have hzz := Nat.le_trans hzz hc_.size
      have hb := hb.chg hc_ (.inr (by omega))
      clear hc_ hz_
      rcases (show y2 = 0 \/ y2 = 1 \/ y2 = 2 \/ y2 = 3 by omega) with rfl | rfl | rfl | rfl
      all_goals
       go_wp2_with fail
       first | (refine hK _ _ ⟨hcq, ?_⟩; clear hK K) | refine ⟨hcq, ?_⟩
       refine norm_K fun K hK => ?_
       change wpList _ _ _ [_, _, _, _, _] _ _
       go_wp2_with fail
       refine (spick_c (g := g_) (cap := 2) hs hb (by omega) (by simp) (by simp)).mono ?_; rintro e v9 ⟨z, rfl, _, hs, hc_, hz_⟩
       have hc := hc.trans hc_; have hcq := hcq.trans hc_; have hx := hx.chg hc_ (.inr (by omega)); have hzz := Nat.le_trans hzz hc_.size
       clear hc_ hz_ hb
       have oh1 := hx.hold (i := 1) (by decide); have of1 := hx.free 1; have oh2 := hx.hold (i := 2) (by decide); have of2 := hx.free 2; have oh4 := hx.hold (i := 4) (by decide); have of4 := hx.free 4; have oh8 := hx.hold (i := 8) (by decide); have of8 := hx.free 8
       go_wp2_with fail
       first | (refine hK _ _ ⟨⟨rfl, ?_⟩, ?_⟩; clear hK K) | refine ⟨⟨rfl, ?_⟩, ?_⟩
       ·repeat' (first | exact trivial | exact ⟨_, rfl, HLT.out, _, _, _, hld⟩ | refine And.intro ?_ ?_)
       go_wp2_with fail
       go_meet
       case rel => exact drx_fin (by simp) hx hs hc (by omega) z
    have hyb1 : (y == 1) = false := by simpa using hy1_
    clear hy1
    go_upto_region 8 with fail
    refine @region_tz ⟨q, q + 1⟩ _ (.pre [(0, 0), (1, 0), (2, 0), (3, 0), (6, 0), (7, 0), (8, 1), (9, 0)] (.two 4 5 (.lin [(false, [(5, 0), (10, 5)]), (false, [(11, 4), (12, 0), (13, 4)])]) 10 5 (.lin [(false, [(4, 5)]), (false, [(5, 0), (11, 4), (12, 0), (13, 4)])]))) _ _ _ _ _ (by kernel_rfl) ?_
    have hcq : Chg q (q + 1) w3.drew w3.drew := Chg.refl
    have hbq : Below w3.heap.size w3 w3.drew := bwT
    have hs := hs.below hbq; have hx := hx.below hbq; have hc := hc.bl (hbq.mono hc.size); have hzz : wr.heap.size + 1 <= w3.drew.heap.size := hzz; have hld := hld.below hbq
    clear hbq
    generalize w3.drew = wq at *
    have e0 := hld.c0; have e1 := hld.c1
    refine norm_K fun K hK => ?_
    change wpList _ _ _ [_, _, _, _, _, _, _, _] _ _
    go_wp2_with fail
    first | (refine hK _ _ ⟨⟨rfl, ?_⟩, ?_⟩; clear hK K) | refine ⟨⟨rfl, ?_⟩, ?_⟩
    ·repeat' (first | exact trivial | exact ⟨_, rfl, HLT.out, _, _, _, hld⟩ | refine And.intro ?_ ?_)
    refine ⟨?_, ?_⟩
    ·skip
     refine norm_K fun K hK => ?_
     change wpList _ _ _ [_] _ _
     go_wp2_with fail
     refine (snext_c hs (by decide) (by decide)).mono ?_; rintro e v10 ⟨y3, rfl, hy30, hy31, hs, hc_, hz_⟩
     have hc := hc.trans hc_; have hcq := hcq.trans hc_; have hx := hx.chg hc_ (.inr (by omega)); have hzz := Nat.le_trans hzz hc_.size
     clear hc_ hz_
     have hy32 : y3 < 15 := by omega
     go_wp2_with fail
     first | (refine hK _ _ ⟨hcq, ?_⟩; clear hK K) | refine ⟨hcq, ?_⟩
     refine norm_K fun K hK => ?_
     change wpList _ _ _ [_, _] _ _
     go_wp2_with fail
     have hb_ : Below v10.heap.size v10 (v10.alloc (.cells #[.int .i64 1, .int .i64 1, .int .i64 (p - 1)] 2)) := bwT
     have hb : OwnI (v10.alloc (.cells #[.int .i64 1, .int .i64 1, .int .i64 (p - 1)] 2)) v10.heap.size v10.heap.size 3 3 ([1, 1, p - 1] : List Int) := OwnI.lit (Nat.le_refl _) [1, 1, p - 1] (by simp)
     obtain ⟨g_, hg_⟩ : ∃ g_, g_ = v10.heap.size := ⟨_, rfl⟩
     have hgl : wr.heap.size + 1 <= g_ := by omega
     obtain ⟨v11, hW_⟩ : ∃ x, x = (v10.alloc (.cells #[.int .i64 1, .int .i64 1, .int .i64 (p - 1)] 2)) := ⟨_, rfl⟩
     rw [<- hg_] at hb ⊢; rw [<- hW_] at hb_ hb ⊢; clear hW_ hg_
     have hs := hs.below hb_; have hc := hc.bl (hb_.mono hc.size); have hcq := hcq.bl (hb_.mono hcq.size); have hx := hx.below hb_; have hzz := Nat.le_trans hzz hb_.size
     clear hb_
     go_wp2_with fail
     first | (refine hK _ _ ⟨hcq, ?_⟩; clear hK K) | refine ⟨hcq, ?_⟩
     refine norm_K fun K hK => ?_
     change wpList _ _ _ [_, _, _] _ _
     go_wp2_with fail
     refine (spick_c (g := g_) (cap := 3) hs hb (by omega) (by simp) (by simp)).mono ?_; rintro e v12 ⟨z, rfl, _, hs, hc_, hz_⟩
     have hc := hc.trans hc_; have hcq := hcq.trans hc_; have hx := hx.chg hc_ (.inr (by omega)); have hzz := Nat.le_trans hzz hc_.size
     clear hc_ hz_ hb
     have oh := hx.hold (i := (1 + y3).toNat) (by omega); have of := hx.free (1 + y3).toNat
     go_wp2_with fail
     first | (refine hK _ _ ⟨⟨rfl, ?_⟩, ?_⟩; clear hK K) | refine ⟨⟨rfl, ?_⟩, ?_⟩
     ·repeat' (first | exact trivial | exact ⟨_, rfl, HLT.out, _, _, _, hld⟩ | refine And.intro ?_ ?_)
     go_wp2_with fail
     go_meet
     case rel => exact drx_fin (by simp) hx hs hc (by omega) z
    ·skip
     refine norm_K fun K hK => ?_
     change wpList _ _ _ [_] _ _
     go_wp2_with fail
     have hb_ : Below wq.heap.size wq (wq.alloc (.cells #[.int .i64 1, .int .i64 1, .int .i64 (p - 1)] 2)) := bwT
     have hb : OwnI (wq.alloc (.cells #[.int .i64 1, .int .i64 1, .int .i64 (p - 1)] 2)) wq.heap.size wq.heap.size 3 3 ([1, 1, p - 1] : List Int) := OwnI.lit (Nat.le_refl _) [1, 1, p - 1] (by simp)
     obtain ⟨g_, hg_⟩ : ∃ g_, g_ = wq.heap.size := ⟨_, rfl⟩
     have hgl : wr.heap.size + 1 <= g_ := by omega
     obtain ⟨v13, hW_⟩ : ∃ x, x = (wq.alloc (.cells #[.int .i64 1, .int .i64 1, .int .i64 (p - 1)] 2)) := ⟨_, rfl⟩
     rw [<- hg_] at hb ⊢; rw [<- hW_] at hb_ hb ⊢; clear hW_ hg_
     have hs := hs.below hb_; have hc := hc.bl (hb_.mono hc.size); have hcq := hcq.bl (hb_.mono hcq.size); have hx := hx.below hb_; have hzz := Nat.le_trans hzz hb_.size
     clear hb_
     go_wp2_with fail
     first | (refine hK _ _ ⟨hcq, ?_⟩; clear hK K) | refine ⟨hcq, ?_⟩
     refine norm_K fun K hK => ?_
     change wpList _ _ _ [_] _ _
     go_wp2_with fail
     refine (snext_c hs (by decide) (by decide)).mono ?_; rintro e v14 ⟨y3, rfl, hy30, hy31, hs, hc_, hz_⟩
     have hc := hc.trans hc_; have hcq := hcq.trans hc_; have hx := hx.chg hc_ (.inr (by omega)); have hzz := Nat.le_trans hzz hc_.size
     have hb := hb.chg hc_ (.inr (by omega))
     clear hc_ hz_
     have hy32 : y3 < 15 := by omega
     go_wp2_with fail
     first | (refine hK _ _ ⟨hcq, ?_⟩; clear hK K) | refine ⟨hcq, ?_⟩
     refine norm_K fun K hK => ?_
     change wpList _ _ _ [_, _, _, _] _ _
     go_wp2_with fail
     refine (spick_c (g := g_) (cap := 3) hs hb (by omega) (by simp) (by simp)).mono ?_; rintro e v15 ⟨z, rfl, _, hs, hc_, hz_⟩
     have hc := hc.trans hc_; have hcq := hcq.trans hc_; have hx := hx.chg hc_ (.inr (by omega)); have hzz := Nat.le_trans hzz hc_.size
     clear hc_ hz_ hb
     have oh := hx.hold (i := (1 + y3).toNat) (by omega); have of := hx.free (1 + y3).toNat
     go_wp2_with fail
     first | (refine hK _ _ ⟨⟨rfl, ?_⟩, ?_⟩; clear hK K) | refine ⟨⟨rfl, ?_⟩, ?_⟩
     ·repeat' (first | exact trivial | exact ⟨_, rfl, HLT.out, _, _, _, hld⟩ | refine And.intro ?_ ?_)
     go_wp2_with fail
     go_meet
     case rel => exact drx_fin (by simp) hx hs hc (by omega) z
   case' rest => skip
   obtain ⟨ys, hyl, hx, hs5, hc5⟩ := hcut
   have hzn := hl.fresh hx.fr.elr
   have hl5 := hl.chg hc5 (by omega); have hd5 := hd.chg hc5 (.inr (by omega)); have hcw5 := hcw.trans hc5
   have hz5 := hc5.size
   have hE := hx.fr.elr
   have HYL := Lib.hid hyl
   clear hl hd hcw hx hc hd3 hs3 hs hyl e0 e1 hlt1 hlt2 hy0 hy1
   go_wp2_with (at_builtin; refine appr_one rfl _ _ rfl wc (w.heap.size + 1) _ rfl (.slice ab us.length cb) us rfl (.slice (some ⟨wr.heap.size, 0, none⟩) 16 16) 1 rfl rfl hl5.own (by omega) (by have := HXL.out; omega) ?_; intro g' cap' w8 hown' hgb' hg' hge)
   have hl8 := hl5.snoc (hE.more (by omega)) hzn (nv := .slice (some ⟨g', 0, none⟩) (us.length + 1) cap') rfl hown' hgb' hg' hge
   go_roundw
   case rel => exact ⟨k + 1, _, _, by omega, by go_num, by rw [List.length_append, HXL.out.1]; rfl, leN_snoc h16 (by rw [HYL.out]; decide), hl8, hd5.bl hgb' (by omega), hs5.bl hgb' (by omega), hcw5.bl (hgb'.mono (by omega)), by have := hgb'.size; omega⟩
   case measure => simp [intOf]; omega
  ·obtain rfl : k = 4 := by omega
   go_wp2_with fail
   go_ret
   exact ⟨_, us, xss, rfl, HXL.out.1, h16, hl.more (by omega), hs, hcw⟩
theorem sdrawim_c {q : Nat} {p : Int} {x : Value} {st : List Int} {w : World} (hs : Src w q) (hx : El w x st) (hp0 : 0 <= p) (hp1 : p <= 17) (hn : st.length <= 5) :
  Calls Tryz.prog 42 #[.pointer (some ⟨q, 0, none⟩), .agg #[.int .i64 p, x]] w fun e w' => DrI w q (min 4 st.length) e w' := by
 obtain ⟨a, c, rfl, h1, h2, _⟩ := id hx.op
 generalize st.length = n at *
 rcases (show n = 0 \/ n = 1 \/ n = 2 \/ n = 3 \/ n = 4 \/ n = 5 by omega) with rfl | rfl | rfl | rfl | rfl | rfl
 ·exact sdrawim0_c hs h1 h2 hp0 hp1
 ·exact sdrawim1_c hs h1 h2 hp0 hp1
 ·exact sdrawim2_c hs h1 h2 hp0 hp1
 ·exact sdrawim3_c hs h1 h2 hp0 hp1
 ·exact sdrawim4_c hs h1 h2 hp0 hp1
 ·exact sdrawim5_c hs h1 h2 hp0 hp1
end Go.Proofs.YtilgbekffbphgaaGreat
