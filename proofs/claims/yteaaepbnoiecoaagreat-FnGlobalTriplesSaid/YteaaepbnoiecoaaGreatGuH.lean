import Derived.Deep.CutBlock
import Derived.Test.YteaaepbnoiecoaaGreatGuD
import Derived.Test.YteaaepbnoiecoaaGreatGuE
import Derived.Test.YteaaepbnoiecoaaGreatGuG
import Derived.Test.YteaaepbnoiecoaaGreatTreeR
namespace Go.Proofs.YteaaepbnoiecoaaGreat
open Go.RowKit
structure Tm (w : World) (B : Nat) (p : Int) (m : Nat) (a b c : Value) : Prop where
 a : MtR w B p m a
 b : MtR w B p m b
 c : MtR w B p m c
section
variable {w w' W v : World} {B B' m N : Nat} {p : Int} {a b c : Value}
theorem Tm.keep (h : Tm w B p m a b c) (hz : w.heap.size <= w'.heap.size) (hk : ∀ b, B <= b -> b < w.heap.size -> w'.heap[b]? = w.heap[b]?) : Tm w' B p m a b c := ⟨h.a.keep hz hk, h.b.keep hz hk, h.c.keep hz hk⟩
theorem Tm.below (h : Tm w B p m a b c) (hb : Below w.heap.size w w') : Tm w' B p m a b c := ⟨h.a.below hb, h.b.below hb, h.c.below hb⟩
theorem Tm.chg {lo hi : Nat} (h : Tm w B p m a b c) (hc : Chg lo hi w w') (hr : hi <= B) : Tm w' B p m a b c := ⟨h.a.chg hc hr, h.b.chg hc hr, h.c.chg hc hr⟩
theorem Tm.more (h : Tm w B p m a b c) (hB : B' <= B) : Tm w B' p m a b c := ⟨h.a.more hB, h.b.more hB, h.c.more hB⟩
theorem Tm.rot (h : Tm w B p m a b c) : Tm w B p m b c a := ⟨h.b, h.c, h.a⟩
theorem Tm.form (h : Tm w B p m a b c) : ∃ a1 c1 a2 c2 a3 c3, a = .slice a1 m c1 /\ b = .slice a2 m c2 /\ c = .slice a3 m c3 := by
 obtain ⟨a1, c1, rfl⟩ := h.a.form
 obtain ⟨a2, c2, rfl⟩ := h.b.form
 obtain ⟨a3, c3, rfl⟩ := h.c.form
 exact ⟨_, _, _, _, _, _, rfl, rfl, rfl⟩
theorem Tm.put (h : Tm W B p m a b c) (hb : Below W.heap.size W v) (hN : W.heap.size <= N) (x y z : Value) : Tm (((v.setCell ⟨N, 0, none⟩ x).setCell ⟨N, 1, none⟩ y).setCell ⟨N, 2, none⟩ z) B p m a b c := by
 have hz := hb.size
 refine h.keep (by simpa using hz) fun b _ hlt => ?_
 have e : ∀ (V : World) (k : Nat) (u : Value), (V.setCell ⟨N, k, none⟩ u).heap[b]? = V.heap[b]? := fun V k u => Below.heap_setCell _ _ _ _ (show b ≠ N by omega)
 rw [e, e, e]
 exact hb.block b hlt
theorem Tm.set3 (h : Tm v B p m a b c) (hN : N < B) (x y z : Value) : Tm (((v.setCell ⟨N, 0, none⟩ x).setCell ⟨N, 1, none⟩ y).setCell ⟨N, 2, none⟩ z) B p m a b c := by
 refine h.keep (by simp) fun b hB _ => ?_
 have e : ∀ (V : World) (k : Nat) (u : Value), (V.setCell ⟨N, k, none⟩ u).heap[b]? = V.heap[b]? := fun V k u => Below.heap_setCell _ _ _ _ (show b ≠ N by omega)
 rw [e, e, e]
theorem Bt.chg {lo hi : Nat} {x y z : Value} {b : Nat} (h : Bt w b x y z) (hc : Chg lo hi w w') (hr : b < lo \/ hi <= b) : Bt w' b x y z := by
 have hl := h.lt
 unfold Bt at h ⊢
 rw [hc.block b hl hr]; exact h
theorem Bt.bl {x y z : Value} {b : Nat} (h : Bt w b x y z) (hb : Below B w w') (hr : b < B) : Bt w' b x y z := by
 unfold Bt at h ⊢
 rw [hb.block b hr]; exact h
theorem blw_set3 {x y z : Value} (hN : B <= N) : Below B v (((v.setCell ⟨N, 0, none⟩ x).setCell ⟨N, 1, none⟩ y).setCell ⟨N, 2, none⟩ z) := (((Below.refl B v).setCell (p := ⟨N, 0, none⟩) hN x).setCell (p := ⟨N, 1, none⟩) hN y).setCell (p := ⟨N, 2, none⟩) hN z
theorem Bt.put {x y z : Value} (h : Bt v N x y z) (a b c : Value) : Bt (((v.setCell ⟨N, 0, none⟩ a).setCell ⟨N, 1, none⟩ b).setCell ⟨N, 2, none⟩ c) N a b c := ((h.set0 a).set1 b).set2 c
end
def TrM (w : World) (p : Int) (m : Nat) (e : Ending) (w' : World) : Prop := ∃ a b c, e = .returned (.agg #[a, b, c]) /\ Tm w' w.heap.size p m a b c /\ Below w.heap.size w w'
def DrT (w : World) (q : Nat) (p : Int) (m : Nat) (e : Ending) (w' : World) : Prop := ∃ a b c, e = .returned (.agg #[a, b, c]) /\ Tm w' w.heap.size p m a b c /\ Src w' q /\ Chg q (q + 1) w w'
theorem TrE.tm {w w' : World} {p : Int} {m : Nat} {A B C : List (List Int)} {e : Ending} (mA : matB p m A = true) (mB : matB p m B = true) (mC : matB p m C = true) (h : TrE w A B C e w') : TrM w p m e w' := by
 obtain ⟨a, b, c, rfl, h1, h2, h3, h4⟩ := h
 exact ⟨a, b, c, rfl, ⟨⟨A, h1, mA⟩, ⟨B, h2, mB⟩, ⟨C, h3, mC⟩⟩, h4⟩
section
variable {p : Int} {s x y z : Value} {st xs ys zs : List Int} {w : World}
theorem sl15u_t (hd : Dok p st) (hs : El w s st) (hx : El w x xs) (ex : Ev p (sz st.length) xs) : Calls Tryz.prog 48 #[.agg #[.int .i64 p, s], x] w fun e w' => TrM w p (sz st.length) e w' := by
 obtain ⟨h1, h2, h3⟩ := un_mat hd ex
 exact (sl15u_c hd hs hx ex).mono fun e w' h => TrE.tm h1 h2 h3 h
theorem stimes15_t {a b c a' b' c' : Value} {m B : Nat} (hp : 1 <= p) (hp2 : p <= 13) (hm1 : 1 <= m) (hm8 : m <= 8) (h : Tm w B p m a b c) (h' : Tm w B p m a' b' c') : Calls Tryz.prog 113 #[.int .i64 p, .agg #[a, b, c], .agg #[a', b', c']] w fun e w' => TrM w p m e w' := by
 obtain ⟨⟨A1, r1, m1⟩, ⟨A2, r2, m2⟩, ⟨A3, r3, m3⟩⟩ := h
 obtain ⟨⟨A4, r4, m4⟩, ⟨A5, r5, m5⟩, ⟨A6, r6, m6⟩⟩ := h'
 exact (stimes15_c hp hp2 hm1 hm8 r1.re r2.re r3.re r4.re r5.re r6.re m1 m2 m3 m4 m5 m6).mono fun e w' h => TrE.tm (mulC_mat hp m1) (mulC_mat hp m2) (mulC_mat hp m3) h
set_option maxHeartbeats 16000000 in
set_option maxRecDepth 100000 in
theorem sdrawgl_c {q : Nat} (hd : Dok p st) (hs : Src w q) (hE0 : ElR w (q + 1) x st) :
  Calls Tryz.prog 94 #[.pointer (some ⟨q, 0, none⟩), .agg #[.int .i64 p, x]] w fun e w' => DrT w q p (sz st.length) e w' := by
 have hp2 : 2 <= p := by have := hd.hp.lo; omega
 have h13 := hd.hp.hi
 have hq := hs.lt
 have hsz := sz_le hd; have hl3 := hd.hl
 obtain ⟨a, c, rfl, _⟩ := id hE0.1.op
 have HLT := Lib.hid (show w.heap.size < q \/ q + 1 <= w.heap.size by omega)
 go_enter Tryz.func94, Tryz.ntmps94
 go_wp2_with fail
 obtain ⟨W0, hW0⟩ : ∃ x, x = ((w.alloc (.cells #[.int .i64 p, .slice a st.length c] 26)).alloc (.cells #[.slice none 0 0, .slice none 0 0, .slice none 0 0] 29)) := ⟨_, rfl⟩
 have hb0 : Below w.heap.size w W0 := by rw [hW0]; exact bwT
 have hBd : Bd W0 w.heap.size (.int .i64 p) (.slice a st.length c) := by rw [hW0]; exact Bd.below (heap_alloc_new w _) bwT
 have hR : Bt W0 (w.heap.size + 1) (.slice none 0 0) (.slice none 0 0) (.slice none 0 0) := by
  have h := heap_alloc_new (w.alloc (.cells #[.int .i64 p, .slice a st.length c] 26)) (.cells #[.slice none 0 0, .slice none 0 0, .slice none 0 0] 29)
  rw [show (w.alloc (.cells #[.int .i64 p, .slice a st.length c] 26)).heap.size = w.heap.size + 1 by simp] at h
  rw [hW0]; exact h
 have hzz : w.heap.size + 1 + 1 <= W0.heap.size := by rw [hW0]; simp
 have hs := hs.below hb0
 have hc : Chg q (q + 1) w W0 := Chg.below hb0
 rw [<- hW0]; clear hW0 hb0
 go_upto_region 1 with fail
 go_cut [5] (fun s wx => ∃ (N : Nat) (x1 x2 x3 : Value), s = .pointer (some ⟨N, 0, none⟩) /\ w.heap.size + 1 + 1 <= N /\ Bt wx N x1 x2 x3 /\ Tm wx (w.heap.size + 1 + 1) p (sz st.length) x1 x2 x3 /\ Src wx q /\ Chg q (q + 1) w wx /\ Bd wx w.heap.size (.int .i64 p) (.slice a st.length c) /\ Bt wx (w.heap.size + 1) (.slice none 0 0) (.slice none 0 0) (.slice none 0 0))
 case first =>
  refine @region_tz ⟨q, q + 1⟩ _ (.pre [(0, 1), (1, 0), (2, 1)] (.two 3 5 (.two 4 5 (.lin [(false, [(5, 5)]), (false, [(6, 4)])]) 5 5 (.lin [(false, [(4, 4), (6, 4)])])) 5 5 (.lin [(false, [(3, 5)]), (false, [(4, 4), (6, 4)])]))) _ _ _ _ _ (by kernel_rfl) ?_
  have hbq : Below W0.heap.size W0 W0.drew := bwT
  have hs := hs.below hbq; have hc0 := hc.bl (hbq.mono hc.size); have hBd := hBd.below hbq; have hR := hR.below hbq; have hE := hE0.chg hc0 (Nat.le_refl _)
  have hzz : w.heap.size + 1 + 1 <= W0.drew.heap.size := hzz
  clear hbq
  generalize W0.drew = wq at *
  have hcq : Chg q (q + 1) wq wq := Chg.refl
  have d0 := hBd.c0; have d1 := hBd.c1; have hld := hBd
  refine norm_K fun K hK => ?_
  change wpList _ _ _ [_, _, _] _ _
  go_wp2_with fail
  first | (refine hK _ _ ⟨⟨rfl, ?_⟩, ?_⟩; clear hK K) | refine ⟨⟨rfl, ?_⟩, ?_⟩
  ·repeat' (first | exact trivial | exact ⟨_, rfl, HLT.out, _, _, _, hld⟩ | refine And.intro ?_ ?_)
  refine ⟨?_, ?_⟩
  ·skip
   refine norm_K fun K hK => ?_
   change wpList _ _ _ [_] _ _
   go_wp2_with fail
   refine (sdrawun_c hd.four hs (hE.chg hcq (Nat.le_refl _))).mono ?_; rintro e v1 ⟨u, us, rfl, hev, hu, hs, hc_⟩
   obtain ⟨au, cu, rfl, _⟩ := id hu.1.op
   have hcq := hcq.trans hc_
   clear hc_
   go_wp2_with fail
   first | (refine hK _ _ ⟨hcq, ?_⟩; clear hK K) | refine ⟨hcq, ?_⟩
   refine ⟨?_, ?_⟩
   ·skip
    refine norm_K fun K hK => ?_
    change wpList _ _ _ [_] _ _
    go_wp2_with fail
    refine (sl15u_t hd (hE.chg hcq (Nat.le_refl _)).1 hu.1 hev).mono ?_; rintro e v2 ⟨x1, x2, x3, rfl, hT, hb_⟩
    obtain ⟨a1_, c1_, a2_, c2_, a3_, c3_, rfl, rfl, rfl⟩ := hT.form
    have hs := hs.below hb_
    have hTz := Nat.le_trans hzz hcq.size
    have hcq := hcq.bl (hb_.mono hcq.size)
    clear hb_ hu hev
    go_wp2_with fail
    first | (refine hK _ _ ⟨hcq, ?_⟩; clear hK K) | refine ⟨hcq, ?_⟩
    refine norm_K fun K hK => ?_
    change wpList _ _ _ [_] _ _
    go_wp2_with fail
    have hb_ : Below v2.heap.size v2 (v2.alloc (.cells #[.slice none 0 0, .slice none 0 0, .slice none 0 0] 29)) := bwT
    have hN : Bt (v2.alloc (.cells #[.slice none 0 0, .slice none 0 0, .slice none 0 0] 29)) v2.heap.size (.slice none 0 0) (.slice none 0 0) (.slice none 0 0) := heap_alloc_new v2 _
    obtain ⟨v3, hW_⟩ : ∃ x, x = (v2.alloc (.cells #[.slice none 0 0, .slice none 0 0, .slice none 0 0] 29)) := ⟨_, rfl⟩
    obtain ⟨N, hN_⟩ : ∃ N, N = v2.heap.size := ⟨_, rfl⟩
    have hNz := Nat.le_trans hzz hcq.size
    have hNq : wq.heap.size <= N := by rw [hN_]; exact hcq.size
    have HNE := Lib.hid hN_
    rw [<- hW_] at hb_ hN; rw [<- hN_] at hN hNz; rw [<- hW_, <- hN_]
    clear hW_ hN_
    have hs := hs.below hb_; have hcq := hcq.bl (hb_.mono hcq.size)
    have hbT := hb_
    clear hb_
    go_wp2_with fail
    first | (refine hK _ _ ⟨hcq, ?_⟩; clear hK K) | refine ⟨hcq, ?_⟩
    refine norm_K fun K hK => ?_
    change wpList _ _ _ [_] _ _
    have n0 := hN.c0; have n1 := hN.c1; have n2 := hN.c2; have nf0 := hN.f 0; have nf1 := hN.f 1; have nf2 := hN.f 2
    go_wp2_with fail
    first | (refine hK _ _ ⟨⟨rfl, ?_⟩, ?_⟩; clear hK K) | refine ⟨⟨rfl, ?_⟩, ?_⟩
    ·repeat' (first | exact trivial | exact ⟨_, rfl, HLT.out, _, _, _, hld⟩ | refine And.intro ?_ ?_)
    go_wp2_with fail
    go_meet
    case rel =>
     have hbF := fun x y z => blw_set3 (v := v3) (x := x) (y := y) (z := z) hNq
     have hcF := hcq.bl (hbF (.slice a1_ (sz st.length) c1_) (.slice a2_ (sz st.length) c2_) (.slice a3_ (sz st.length) c3_))
     have hsF := hs.bl (hbF (.slice a1_ (sz st.length) c1_) (.slice a2_ (sz st.length) c2_) (.slice a3_ (sz st.length) c3_)) (by omega)
     have hTF := (hT.put hbT (Nat.le_of_eq HNE.out.symm) (.slice a1_ (sz st.length) c1_) (.slice a2_ (sz st.length) c2_) (.slice a3_ (sz st.length) c3_)).more hTz
     exact ⟨N, _, _, _, rfl, hNz, hN.put _ _ _, hTF, hsF, hc0.trans hcF, hBd.chg hcF (.inr (by omega)), hR.chg hcF (.inr (by omega))⟩
   ·skip
    refine norm_K fun K hK => ?_
    change wpList _ _ _ [_] _ _
    go_wp2_with fail
    have hb_ : Below v1.heap.size v1 (v1.alloc (.cells #[.slice none 0 0, .slice none 0 0, .slice none 0 0] 29)) := bwT
    have hN : Bt (v1.alloc (.cells #[.slice none 0 0, .slice none 0 0, .slice none 0 0] 29)) v1.heap.size (.slice none 0 0) (.slice none 0 0) (.slice none 0 0) := heap_alloc_new v1 _
    obtain ⟨v4, hW_⟩ : ∃ x, x = (v1.alloc (.cells #[.slice none 0 0, .slice none 0 0, .slice none 0 0] 29)) := ⟨_, rfl⟩
    obtain ⟨N, hN_⟩ : ∃ N, N = v1.heap.size := ⟨_, rfl⟩
    have hNz := Nat.le_trans hzz hcq.size
    have hNq : wq.heap.size <= N := by rw [hN_]; exact hcq.size
    have HNE := Lib.hid hN_
    rw [<- hW_] at hb_ hN; rw [<- hN_] at hN hNz; rw [<- hW_, <- hN_]
    clear hW_ hN_
    have hs := hs.below hb_; have hcq := hcq.bl (hb_.mono hcq.size)
    have hu := hu.below hb_
    clear hb_
    go_wp2_with fail
    first | (refine hK _ _ ⟨hcq, ?_⟩; clear hK K) | refine ⟨hcq, ?_⟩
    refine norm_K fun K hK => ?_
    change wpList _ _ _ [_, _] _ _
    go_wp2_with fail
    refine (sl15u_t hd (hE.chg hcq (Nat.le_refl _)).1 hu.1 hev).mono ?_; rintro e v5 ⟨x1, x2, x3, rfl, hT, hb_⟩
    obtain ⟨a1_, c1_, a2_, c2_, a3_, c3_, rfl, rfl, rfl⟩ := hT.form
    have hs := hs.below hb_
    have hTN := hN.lt
    have hN := hN.below hb_
    have hcq := hcq.bl (hb_.mono hcq.size)
    clear hb_ hu hev
    have n0 := hN.c0; have n1 := hN.c1; have n2 := hN.c2; have nf0 := hN.f 0; have nf1 := hN.f 1; have nf2 := hN.f 2
    go_wp2_with fail
    first | (refine hK _ _ ⟨⟨rfl, ?_⟩, ?_⟩; clear hK K) | refine ⟨⟨rfl, ?_⟩, ?_⟩
    ·repeat' (first | exact trivial | exact ⟨_, rfl, HLT.out, _, _, _, hld⟩ | refine And.intro ?_ ?_)
    go_wp2_with fail
    go_meet
    case rel =>
     have hbF := fun x y z => blw_set3 (v := v5) (x := x) (y := y) (z := z) hNq
     have hcF := hcq.bl (hbF (.slice a1_ (sz st.length) c1_) (.slice a2_ (sz st.length) c2_) (.slice a3_ (sz st.length) c3_))
     have hsF := hs.bl (hbF (.slice a1_ (sz st.length) c1_) (.slice a2_ (sz st.length) c2_) (.slice a3_ (sz st.length) c3_)) (by omega)
     have hTF := (hT.set3 hTN (.slice a1_ (sz st.length) c1_) (.slice a2_ (sz st.length) c2_) (.slice a3_ (sz st.length) c3_)).more (Nat.le_trans hNz (Nat.le_of_lt hTN))
     exact ⟨N, _, _, _, rfl, hNz, hN.put _ _ _, hTF, hsF, hc0.trans hcF, hBd.chg hcF (.inr (by omega)), hR.chg hcF (.inr (by omega))⟩
  ·skip
   refine norm_K fun K hK => ?_
   change wpList _ _ _ [_] _ _
   go_wp2_with fail
   have hb_ : Below wq.heap.size wq (wq.alloc (.cells #[.slice none 0 0, .slice none 0 0, .slice none 0 0] 29)) := bwT
   have hN : Bt (wq.alloc (.cells #[.slice none 0 0, .slice none 0 0, .slice none 0 0] 29)) wq.heap.size (.slice none 0 0) (.slice none 0 0) (.slice none 0 0) := heap_alloc_new wq _
   obtain ⟨v6, hW_⟩ : ∃ x, x = (wq.alloc (.cells #[.slice none 0 0, .slice none 0 0, .slice none 0 0] 29)) := ⟨_, rfl⟩
   obtain ⟨N, hN_⟩ : ∃ N, N = wq.heap.size := ⟨_, rfl⟩
   have hNz := Nat.le_trans hzz hcq.size
   have hNq : wq.heap.size <= N := by rw [hN_]; exact hcq.size
   have HNE := Lib.hid hN_
   rw [<- hW_] at hb_ hN; rw [<- hN_] at hN hNz; rw [<- hW_, <- hN_]
   clear hW_ hN_
   have hs := hs.below hb_; have hcq := hcq.bl (hb_.mono hcq.size)
   clear hb_
   go_wp2_with fail
   first | (refine hK _ _ ⟨hcq, ?_⟩; clear hK K) | refine ⟨hcq, ?_⟩
   refine norm_K fun K hK => ?_
   change wpList _ _ _ [_] _ _
   go_wp2_with fail
   refine (sdrawun_c hd.four hs (hE.chg hcq (Nat.le_refl _))).mono ?_; rintro e v7 ⟨u, us, rfl, hev, hu, hs, hc_⟩
   obtain ⟨au, cu, rfl, _⟩ := id hu.1.op
   have hcq := hcq.trans hc_
   have hN := hN.chg hc_ (.inr (by omega))
   clear hc_
   go_wp2_with fail
   first | (refine hK _ _ ⟨hcq, ?_⟩; clear hK K) | refine ⟨hcq, ?_⟩
   refine norm_K fun K hK => ?_
   change wpList _ _ _ [_, _] _ _
   go_wp2_with fail
   refine (sl15u_t hd (hE.chg hcq (Nat.le_refl _)).1 hu.1 hev).mono ?_; rintro e v8 ⟨x1, x2, x3, rfl, hT, hb_⟩
   obtain ⟨a1_, c1_, a2_, c2_, a3_, c3_, rfl, rfl, rfl⟩ := hT.form
   have hs := hs.below hb_
   have hTN := hN.lt
   have hN := hN.below hb_
   have hcq := hcq.bl (hb_.mono hcq.size)
   clear hb_ hu hev
   have n0 := hN.c0; have n1 := hN.c1; have n2 := hN.c2; have nf0 := hN.f 0; have nf1 := hN.f 1; have nf2 := hN.f 2
   go_wp2_with fail
   first | (refine hK _ _ ⟨⟨rfl, ?_⟩, ?_⟩; clear hK K) | refine ⟨⟨rfl, ?_⟩, ?_⟩
   ·repeat' (first | exact trivial | exact ⟨_, rfl, HLT.out, _, _, _, hld⟩ | refine And.intro ?_ ?_)
   go_wp2_with fail
   go_meet
   case rel =>
    have hbF := fun x y z => blw_set3 (v := v8) (x := x) (y := y) (z := z) hNq
    have hcF := hcq.bl (hbF (.slice a1_ (sz st.length) c1_) (.slice a2_ (sz st.length) c2_) (.slice a3_ (sz st.length) c3_))
    have hsF := hs.bl (hbF (.slice a1_ (sz st.length) c1_) (.slice a2_ (sz st.length) c2_) (.slice a3_ (sz st.length) c3_)) (by omega)
    have hTF := (hT.set3 hTN (.slice a1_ (sz st.length) c1_) (.slice a2_ (sz st.length) c2_) (.slice a3_ (sz st.length) c3_)).more (Nat.le_trans hNz (Nat.le_of_lt hTN))
    exact ⟨N, _, _, _, rfl, hNz, hN.put _ _ _, hTF, hsF, hc0.trans hcF, hBd.chg hcF (.inr (by omega)), hR.chg hcF (.inr (by omega))⟩
 case' rest => skip
 clear hs hc hBd hR hzz
 obtain ⟨M, x1, x2, x3, rfl, hMz, hN1, hT1, hs, hc, hBd, hR⟩ := hcut
 obtain ⟨b1, d1_, b2, d2_, b3, d3_, rfl, rfl, rfl⟩ := hT1.form
 go_wp2_with fail
 refine (snext_c hs (by decide) (by decide)).mono ?_; rintro e w3 ⟨y, rfl, hy0_, hy1_, hs, hc3, hz3_⟩
 have hN1 := hN1.chg hc3 (.inr (by omega)); have hT1 := hT1.chg hc3 (by omega); have hBd := hBd.chg hc3 (.inr (by omega)); have hR := hR.chg hc3 (.inr (by omega)); have hc := hc.trans hc3
 have hM3 := hN1.lt
 clear hc3 hz3_ hy0_ hy1_
 go_upto_if 14 with fail
 go_cut [] (fun wx => ∃ (x1 x2 x3 : Value), Bt wx M x1 x2 x3 /\ Tm wx (w.heap.size + 1 + 1) p (sz st.length) x1 x2 x3 /\ Src wx q /\ Chg q (q + 1) w wx /\ Bt wx (w.heap.size + 1) (.slice none 0 0) (.slice none 0 0) (.slice none 0 0))
 case first =>
  by_cases hy : y = 0
  case neg =>
   have hyb : (y == 0) = false := by simpa using hy
   go_wp2_with fail
   go_meet
   case rel => exact ⟨_, _, _, hN1, hT1, hs, hc, hR⟩
  have hyb : (y == 0) = true := by simpa using hy
  have hzz : w.heap.size + 1 + 1 <= w3.heap.size := by omega
  clear hy
  go_upto_region 3 with fail
  go_cut [6] (fun s wx => ∃ (N : Nat) (x1 x2 x3 : Value), s = .pointer (some ⟨N, 0, none⟩) /\ w.heap.size + 1 + 1 <= N /\ Bt wx N x1 x2 x3 /\ Tm wx (w.heap.size + 1 + 1) p (sz st.length) x1 x2 x3 /\ Src wx q /\ Chg q (q + 1) w wx /\ Bd wx w.heap.size (.int .i64 p) (.slice a st.length c) /\ Bt wx (w.heap.size + 1) (.slice none 0 0) (.slice none 0 0) (.slice none 0 0) /\ Bt wx M (.slice b1 (sz st.length) d1_) (.slice b2 (sz st.length) d2_) (.slice b3 (sz st.length) d3_) /\ Tm wx (w.heap.size + 1 + 1) p (sz st.length) (.slice b1 (sz st.length) d1_) (.slice b2 (sz st.length) d2_) (.slice b3 (sz st.length) d3_))
  case first =>
   refine @region_tz ⟨q, q + 1⟩ _ (.pre [(0, 1), (1, 0), (2, 1)] (.two 3 5 (.two 4 5 (.lin [(false, [(5, 5)]), (false, [(6, 4)])]) 5 5 (.lin [(false, [(4, 4), (6, 4)])])) 5 5 (.lin [(false, [(3, 5)]), (false, [(4, 4), (6, 4)])]))) _ _ _ _ _ (by kernel_rfl) ?_
   have hbq : Below w3.heap.size w3 w3.drew := bwT
   have hs := hs.below hbq; have hc0 := hc.bl (hbq.mono hc.size); have hBd := hBd.below hbq; have hR := hR.below hbq; have hE := hE0.chg hc0 (Nat.le_refl _); have hN1 := hN1.below hbq; have hT1 := hT1.below hbq
   have hzz : w.heap.size + 1 + 1 <= w3.drew.heap.size := hzz
   clear hbq
   generalize w3.drew = wq at *
   have hcq : Chg q (q + 1) wq wq := Chg.refl
   have d0 := hBd.c0; have d1 := hBd.c1; have hld := hBd
   refine norm_K fun K hK => ?_
   change wpList _ _ _ [_, _, _] _ _
   go_wp2_with fail
   first | (refine hK _ _ ⟨⟨rfl, ?_⟩, ?_⟩; clear hK K) | refine ⟨⟨rfl, ?_⟩, ?_⟩
   ·repeat' (first | exact trivial | exact ⟨_, rfl, HLT.out, _, _, _, hld⟩ | refine And.intro ?_ ?_)
   refine ⟨?_, ?_⟩
   ·skip
    refine norm_K fun K hK => ?_
    change wpList _ _ _ [_] _ _
    go_wp2_with fail
    refine (sdrawun_c hd.four hs (hE.chg hcq (Nat.le_refl _))).mono ?_; rintro e v9 ⟨u, us, rfl, hev, hu, hs, hc_⟩
    obtain ⟨au, cu, rfl, _⟩ := id hu.1.op
    have hcq := hcq.trans hc_
    clear hc_
    go_wp2_with fail
    first | (refine hK _ _ ⟨hcq, ?_⟩; clear hK K) | refine ⟨hcq, ?_⟩
    refine ⟨?_, ?_⟩
    ·skip
     refine norm_K fun K hK => ?_
     change wpList _ _ _ [_] _ _
     go_wp2_with fail
     refine (sl15u_t hd (hE.chg hcq (Nat.le_refl _)).1 hu.1 hev).mono ?_; rintro e v10 ⟨x1, x2, x3, rfl, hT, hb_⟩
     obtain ⟨a1_, c1_, a2_, c2_, a3_, c3_, rfl, rfl, rfl⟩ := hT.form
     have hs := hs.below hb_
     have hTz := Nat.le_trans hzz hcq.size
     have hcq := hcq.bl (hb_.mono hcq.size)
     clear hb_ hu hev
     go_wp2_with fail
     first | (refine hK _ _ ⟨hcq, ?_⟩; clear hK K) | refine ⟨hcq, ?_⟩
     refine norm_K fun K hK => ?_
     change wpList _ _ _ [_] _ _
     go_wp2_with fail
     have hb_ : Below v10.heap.size v10 (v10.alloc (.cells #[.slice none 0 0, .slice none 0 0, .slice none 0 0] 29)) := bwT
     have hN : Bt (v10.alloc (.cells #[.slice none 0 0, .slice none 0 0, .slice none 0 0] 29)) v10.heap.size (.slice none 0 0) (.slice none 0 0) (.slice none 0 0) := heap_alloc_new v10 _
     obtain ⟨v11, hW_⟩ : ∃ x, x = (v10.alloc (.cells #[.slice none 0 0, .slice none 0 0, .slice none 0 0] 29)) := ⟨_, rfl⟩
     obtain ⟨N, hN_⟩ : ∃ N, N = v10.heap.size := ⟨_, rfl⟩
     have hNz := Nat.le_trans hzz hcq.size
     have hNq : wq.heap.size <= N := by rw [hN_]; exact hcq.size
     have HNE := Lib.hid hN_
     rw [<- hW_] at hb_ hN; rw [<- hN_] at hN hNz; rw [<- hW_, <- hN_]
     clear hW_ hN_
     have hs := hs.below hb_; have hcq := hcq.bl (hb_.mono hcq.size)
     have hbT := hb_
     clear hb_
     go_wp2_with fail
     first | (refine hK _ _ ⟨hcq, ?_⟩; clear hK K) | refine ⟨hcq, ?_⟩
     refine norm_K fun K hK => ?_
     change wpList _ _ _ [_] _ _
     have n0 := hN.c0; have n1 := hN.c1; have n2 := hN.c2; have nf0 := hN.f 0; have nf1 := hN.f 1; have nf2 := hN.f 2
     go_wp2_with fail
     first | (refine hK _ _ ⟨⟨rfl, ?_⟩, ?_⟩; clear hK K) | refine ⟨⟨rfl, ?_⟩, ?_⟩
     ·repeat' (first | exact trivial | exact ⟨_, rfl, HLT.out, _, _, _, hld⟩ | refine And.intro ?_ ?_)
     go_wp2_with fail
     go_meet
     case rel =>
      have hbF := fun x y z => blw_set3 (v := v11) (x := x) (y := y) (z := z) hNq
      have hcF := hcq.bl (hbF (.slice a1_ (sz st.length) c1_) (.slice a2_ (sz st.length) c2_) (.slice a3_ (sz st.length) c3_))
      have hsF := hs.bl (hbF (.slice a1_ (sz st.length) c1_) (.slice a2_ (sz st.length) c2_) (.slice a3_ (sz st.length) c3_)) (by omega)
      have hTF := (hT.put hbT (Nat.le_of_eq HNE.out.symm) (.slice a1_ (sz st.length) c1_) (.slice a2_ (sz st.length) c2_) (.slice a3_ (sz st.length) c3_)).more hTz
      exact ⟨N, _, _, _, rfl, hNz, hN.put _ _ _, hTF, hsF, hc0.trans hcF, hBd.chg hcF (.inr (by omega)), hR.chg hcF (.inr (by omega)), hN1.chg hcF (.inr (by omega)), hT1.chg hcF (by omega)⟩
    ·skip
     refine norm_K fun K hK => ?_
     change wpList _ _ _ [_] _ _
     go_wp2_with fail
     have hb_ : Below v9.heap.size v9 (v9.alloc (.cells #[.slice none 0 0, .slice none 0 0, .slice none 0 0] 29)) := bwT
     have hN : Bt (v9.alloc (.cells #[.slice none 0 0, .slice none 0 0, .slice none 0 0] 29)) v9.heap.size (.slice none 0 0) (.slice none 0 0) (.slice none 0 0) := heap_alloc_new v9 _
     obtain ⟨v12, hW_⟩ : ∃ x, x = (v9.alloc (.cells #[.slice none 0 0, .slice none 0 0, .slice none 0 0] 29)) := ⟨_, rfl⟩
     obtain ⟨N, hN_⟩ : ∃ N, N = v9.heap.size := ⟨_, rfl⟩
     have hNz := Nat.le_trans hzz hcq.size
     have hNq : wq.heap.size <= N := by rw [hN_]; exact hcq.size
     have HNE := Lib.hid hN_
     rw [<- hW_] at hb_ hN; rw [<- hN_] at hN hNz; rw [<- hW_, <- hN_]
     clear hW_ hN_
     have hs := hs.below hb_; have hcq := hcq.bl (hb_.mono hcq.size)
     have hu := hu.below hb_
     clear hb_
     go_wp2_with fail
     first | (refine hK _ _ ⟨hcq, ?_⟩; clear hK K) | refine ⟨hcq, ?_⟩
     refine norm_K fun K hK => ?_
     change wpList _ _ _ [_, _] _ _
     go_wp2_with fail
     refine (sl15u_t hd (hE.chg hcq (Nat.le_refl _)).1 hu.1 hev).mono ?_; rintro e v13 ⟨x1, x2, x3, rfl, hT, hb_⟩
     obtain ⟨a1_, c1_, a2_, c2_, a3_, c3_, rfl, rfl, rfl⟩ := hT.form
     have hs := hs.below hb_
     have hTN := hN.lt
     have hN := hN.below hb_
     have hcq := hcq.bl (hb_.mono hcq.size)
     clear hb_ hu hev
     have n0 := hN.c0; have n1 := hN.c1; have n2 := hN.c2; have nf0 := hN.f 0; have nf1 := hN.f 1; have nf2 := hN.f 2
     go_wp2_with fail
     first | (refine hK _ _ ⟨⟨rfl, ?_⟩, ?_⟩; clear hK K) | refine ⟨⟨rfl, ?_⟩, ?_⟩
     ·repeat' (first | exact trivial | exact ⟨_, rfl, HLT.out, _, _, _, hld⟩ | refine And.intro ?_ ?_)
     go_wp2_with fail
     go_meet
     case rel =>
      have hbF := fun x y z => blw_set3 (v := v13) (x := x) (y := y) (z := z) hNq
      have hcF := hcq.bl (hbF (.slice a1_ (sz st.length) c1_) (.slice a2_ (sz st.length) c2_) (.slice a3_ (sz st.length) c3_))
      have hsF := hs.bl (hbF (.slice a1_ (sz st.length) c1_) (.slice a2_ (sz st.length) c2_) (.slice a3_ (sz st.length) c3_)) (by omega)
      have hTF := (hT.set3 hTN (.slice a1_ (sz st.length) c1_) (.slice a2_ (sz st.length) c2_) (.slice a3_ (sz st.length) c3_)).more (Nat.le_trans hNz (Nat.le_of_lt hTN))
      exact ⟨N, _, _, _, rfl, hNz, hN.put _ _ _, hTF, hsF, hc0.trans hcF, hBd.chg hcF (.inr (by omega)), hR.chg hcF (.inr (by omega)), hN1.chg hcF (.inr (by omega)), hT1.chg hcF (by omega)⟩
   ·skip
    refine norm_K fun K hK => ?_
    change wpList _ _ _ [_] _ _
    go_wp2_with fail
    have hb_ : Below wq.heap.size wq (wq.alloc (.cells #[.slice none 0 0, .slice none 0 0, .slice none 0 0] 29)) := bwT
    have hN : Bt (wq.alloc (.cells #[.slice none 0 0, .slice none 0 0, .slice none 0 0] 29)) wq.heap.size (.slice none 0 0) (.slice none 0 0) (.slice none 0 0) := heap_alloc_new wq _
    obtain ⟨v14, hW_⟩ : ∃ x, x = (wq.alloc (.cells #[.slice none 0 0, .slice none 0 0, .slice none 0 0] 29)) := ⟨_, rfl⟩
    obtain ⟨N, hN_⟩ : ∃ N, N = wq.heap.size := ⟨_, rfl⟩
    have hNz := Nat.le_trans hzz hcq.size
    have hNq : wq.heap.size <= N := by rw [hN_]; exact hcq.size
    have HNE := Lib.hid hN_
    rw [<- hW_] at hb_ hN; rw [<- hN_] at hN hNz; rw [<- hW_, <- hN_]
    clear hW_ hN_
    have hs := hs.below hb_; have hcq := hcq.bl (hb_.mono hcq.size)
    clear hb_
    go_wp2_with fail
    first | (refine hK _ _ ⟨hcq, ?_⟩; clear hK K) | refine ⟨hcq, ?_⟩
    refine norm_K fun K hK => ?_
    change wpList _ _ _ [_] _ _
    go_wp2_with fail
    refine (sdrawun_c hd.four hs (hE.chg hcq (Nat.le_refl _))).mono ?_; rintro e v15 ⟨u, us, rfl, hev, hu, hs, hc_⟩
    obtain ⟨au, cu, rfl, _⟩ := id hu.1.op
    have hcq := hcq.trans hc_
    have hN := hN.chg hc_ (.inr (by omega))
    clear hc_
    go_wp2_with fail
    first | (refine hK _ _ ⟨hcq, ?_⟩; clear hK K) | refine ⟨hcq, ?_⟩
    refine norm_K fun K hK => ?_
    change wpList _ _ _ [_, _] _ _
    go_wp2_with fail
    refine (sl15u_t hd (hE.chg hcq (Nat.le_refl _)).1 hu.1 hev).mono ?_; rintro e v16 ⟨x1, x2, x3, rfl, hT, hb_⟩
    obtain ⟨a1_, c1_, a2_, c2_, a3_, c3_, rfl, rfl, rfl⟩ := hT.form
    have hs := hs.below hb_
    have hTN := hN.lt
    have hN := hN.below hb_
    have hcq := hcq.bl (hb_.mono hcq.size)
    clear hb_ hu hev
    have n0 := hN.c0; have n1 := hN.c1; have n2 := hN.c2; have nf0 := hN.f 0; have nf1 := hN.f 1; have nf2 := hN.f 2
    go_wp2_with fail
    first | (refine hK _ _ ⟨⟨rfl, ?_⟩, ?_⟩; clear hK K) | refine ⟨⟨rfl, ?_⟩, ?_⟩
    ·repeat' (first | exact trivial | exact ⟨_, rfl, HLT.out, _, _, _, hld⟩ | refine And.intro ?_ ?_)
    go_wp2_with fail
    go_meet
    case rel =>
     have hbF := fun x y z => blw_set3 (v := v16) (x := x) (y := y) (z := z) hNq
     have hcF := hcq.bl (hbF (.slice a1_ (sz st.length) c1_) (.slice a2_ (sz st.length) c2_) (.slice a3_ (sz st.length) c3_))
     have hsF := hs.bl (hbF (.slice a1_ (sz st.length) c1_) (.slice a2_ (sz st.length) c2_) (.slice a3_ (sz st.length) c3_)) (by omega)
     have hTF := (hT.set3 hTN (.slice a1_ (sz st.length) c1_) (.slice a2_ (sz st.length) c2_) (.slice a3_ (sz st.length) c3_)).more (Nat.le_trans hNz (Nat.le_of_lt hTN))
     exact ⟨N, _, _, _, rfl, hNz, hN.put _ _ _, hTF, hsF, hc0.trans hcF, hBd.chg hcF (.inr (by omega)), hR.chg hcF (.inr (by omega)), hN1.chg hcF (.inr (by omega)), hT1.chg hcF (by omega)⟩
  case' rest => skip
  clear hs hc hBd hR hN1 hT1 hzz hM3
  obtain ⟨N, x1, x2, x3, rfl, hNz, hN, hT, hs, hc, hBd, hR, hN1, hT1⟩ := hcut
  obtain ⟨a1_, c1_, a2_, c2_, a3_, c3_, rfl, rfl, rfl⟩ := hT.form
  have d0 := hBd.c0; have d1 := hBd.c1; have m0 := hN1.c0; have m1 := hN1.c1; have m2 := hN1.c2; have n0 := hN.c0; have n1 := hN.c1; have n2 := hN.c2
  have hk := fun W (h : Tm W (w.heap.size + 1 + 1) p (sz st.length) (.slice b1 (sz st.length) d1_) (.slice b2 (sz st.length) d2_) (.slice b3 (sz st.length) d3_)) (h' : Tm W (w.heap.size + 1 + 1) p (sz st.length) (.slice a2_ (sz st.length) c2_) (.slice a3_ (sz st.length) c3_) (.slice a1_ (sz st.length) c1_)) => stimes15_t (w := W) (show 1 <= p by omega) h13 hsz.1 hsz.2 h h'
  go_wp2_with fail
  refine (hk _ hT1 hT.rot).mono ?_; rintro e w9 ⟨y1, y2, y3, rfl, hP, hb9⟩
  obtain ⟨e1_, f1_, e2_, f2_, e3_, f3_, rfl, rfl, rfl⟩ := hP.form
  have hMc := hN1.lt
  have hN9 := hN1.below hb9
  have hs9 := hs.below hb9
  have hc9 := hc.bl (hb9.mono hc.size)
  have hR9 := hR.below hb9
  have m0 := hN9.c0; have m1 := hN9.c1; have m2 := hN9.c2; have mf0 := hN9.f 0; have mf1 := hN9.f 1; have mf2 := hN9.f 2
  clear hN hN1 hT1 hT hs hc hBd hR hb9 d0 d1 n0 n1 n2
  go_wp2_with fail
  go_meet
  case rel =>
   have hbF := fun x y z => blw_set3 (v := w9) (x := x) (y := y) (z := z) hMz
   exact ⟨_, _, _, hN9.put _ _ _, (hP.set3 hMc _ _ _).more (by omega), hs9.bl (hbF _ _ _) (by omega), hc9.bl ((hbF _ _ _).mono (by omega)), hR9.bl (hbF _ _ _) (by omega)⟩
 case' rest => skip
 clear hN1 hT1 hs hc hBd hR hM3
 obtain ⟨x1, x2, x3, hN1, hT1, hs, hc, hR⟩ := hcut
 obtain ⟨b1, d1_, b2, d2_, b3, d3_, rfl, rfl, rfl⟩ := hT1.form
 have m0 := hN1.c0; have m1 := hN1.c1; have m2 := hN1.c2; have r0 := hR.c0; have r1 := hR.c1; have r2 := hR.c2; have rf0 := hR.f 0; have rf1 := hR.f 1; have rf2 := hR.f 2
 go_wp2_with fail
 refine bodyPost_ret (v := .agg #[.slice b1 (sz st.length) d1_, .slice b2 (sz st.length) d2_, .slice b3 (sz st.length) d3_]) (by simp [results, Tryz.results94, go_sem, r0, r1, r2]) rfl ?_
 have hbF := fun x y z => blw_set3 (v := wc) (B := w.heap.size) (N := w.heap.size + 1) (x := x) (y := y) (z := z) (by omega)
 exact ⟨_, _, _, rfl, (hT1.set3 (by omega) _ _ _).more (by omega), hs.bl (hbF _ _ _) (by omega), hc.bl (hbF _ _ _)⟩
end
end Go.Proofs.YteaaepbnoiecoaaGreat
