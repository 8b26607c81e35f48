/- Texts joined for a claim: GuI, HeD, DpI, DpJ. -/
import Derived.Deep.CutBlock
import Derived.Test.YteaaepbnoiecoaaGreatGuF
import Derived.Test.YteaaepbnoiecoaaGreatGuH
import Derived.Test.YteaaepbnoiecoaaGreatJbb
import Derived.Test.YteaaepbnoiecoaaGreatJaf
import Derived.Test.YteaaepbnoiecoaaGreatHeC
import Derived.Test.YteaaepbnoiecoaaGreatJar
import Derived.Test.YteaaepbnoiecoaaGreatTreeR
namespace Go.Proofs.YteaaepbnoiecoaaGreat
open Go.RowKit
section
variable {p : Int} {s x y z : Value} {st xs ys zs : List Int} {w : World}
theorem spure_t (hd : Dok p st) (hs : El w s st) (hx : El w x xs) (ex : Ev p (sz st.length) xs) : Calls Tryz.prog 110 #[.agg #[.int .i64 p, s], x] w fun e w' => TrM w p (sz st.length) e w' := by
 obtain ⟨h1, h2, h3⟩ := un_mat hd ex
 exact (spure_c hd hs hx ex).mono fun e w' h => TrE.tm h1 h2 (pureC_mat hd ex) h
theorem sown15_t {a b c : Value} {m B : Nat} (hm1 : 1 <= m) (hm8 : m <= 16) (h : Tm w B p m a b c) : Calls Tryz.prog 112 #[.agg #[a, b, c]] w fun e w' => TrM w p m e w' := by
 obtain ⟨⟨A1, r1, m1⟩, ⟨A2, r2, m2⟩, ⟨A3, r3, m3⟩⟩ := h
 exact (sown15_c hm1 hm8 r1.re r2.re r3.re m1 m2 m3).mono fun e w' h => TrE.tm m1 m2 m3 h
theorem sown2_t {v : Value} {m B : Nat} (hm1 : 1 <= m) (hm8 : m <= 16) (h : MtR w B p m v) : Calls Tryz.prog 111 #[v] w fun e w' => ∃ v, e = .returned v /\ MtR w' w.heap.size p m v /\ Below w.heap.size w w' := by
 obtain ⟨A, r, hm⟩ := h
 obtain ⟨h1, h2⟩ := matB_iff.1 hm
 exact (sown2_c r.re (fun r hr => by have := (h2 r hr).1; omega) (by omega) (by omega)).mono fun e w' ⟨v, h1, h2, h3⟩ => ⟨v, h1, ⟨A, h2, hm⟩, h3⟩
theorem sinner_t (hd : Dok p st) (hs : El w s st) (hx : El w x xs) (hy : El w y ys) (ex : Ev p (sz st.length) xs) (ey : Ev p (sz st.length) ys) :
  Calls Tryz.prog 109 #[.agg #[.int .i64 p, s], x, y] w fun e w' => ∃ v, e = .returned v /\ MtR w' w.heap.size p (sz st.length) v /\ Below w.heap.size w w' := by
 have h1 : 1 <= p := by have := hd.hp.lo; omega
 exact (sinnerF_c hd hs hx hy ex ey).mono fun e w' ⟨v, h2, h3, h4⟩ => ⟨v, h2, ⟨_, h3, trL_mat h1 inL_len fun r hr => by obtain ⟨i, _, rfl⟩ := List.mem_map.1 hr; exact inCol_ev hd ex ey i⟩, h4⟩
set_option maxHeartbeats 16000000 in
set_option maxRecDepth 100000 in
theorem sdrawlo_c {q : Nat} (hd : Dok p st) (hs : Src w q) (hE0 : ElR w (q + 1) x st) :
  Calls Tryz.prog 93 #[.pointer (some ⟨q, 0, none⟩), .agg #[.int .i64 p, x]] w fun e w' => DrT w q p (sz st.length) e w' := by
 have hp2 : 2 <= p := by have := hd.hp.lo; omega
 have h13 := hd.hp.hi
 have hq := hs.lt
 have hsz := sz_le hd; have hl3 := hd.hl
 obtain ⟨a, c, rfl, _⟩ := id hE0.1.op
 have HLT := Lib.hid (show w.heap.size < q \/ q + 1 <= w.heap.size by omega)
 have e1 : Ev p (sz st.length) (oneL (sz st.length) 0) := ⟨oneL_len, oneL_fp hp2⟩
 have kone := fun W (h : El W (.slice a st.length c) st) => sone_c (w := W) (p := p) (i := 0) hd h hsz.1
 obtain ⟨O, hO⟩ : ∃ O, O = oneL (sz st.length) 0 := ⟨_, rfl⟩
 simp only [<- hO] at kone e1
 clear hO
 have koe := fun W g cap (h : El W (.slice a st.length c) st) (h' : El W (.slice g O.length cap) O) => selem_c (w := W) (p := p) h h' (by omega) (by rw [e1.1]; omega) (by omega) (by omega)
 rw [isE_iff.2 e1] at koe
 go_enter Tryz.func93, Tryz.ntmps93
 go_wp2_with fail
 obtain ⟨W0, hW0⟩ : ∃ x, x = ((w.alloc (.cells #[.int .i64 p, .slice a st.length c] 26)).alloc (.cells #[.slice none 0 0, .slice none 0 0, .slice none 0 0] 29)) := ⟨_, rfl⟩
 have hb0 : Below w.heap.size w W0 := by rw [hW0]; exact bwT
 have hBd : Bd W0 w.heap.size (.int .i64 p) (.slice a st.length c) := by rw [hW0]; exact Bd.below (heap_alloc_new w _) bwT
 have hR : Bt W0 (w.heap.size + 1) (.slice none 0 0) (.slice none 0 0) (.slice none 0 0) := by
  have h := heap_alloc_new (w.alloc (.cells #[.int .i64 p, .slice a st.length c] 26)) (.cells #[.slice none 0 0, .slice none 0 0, .slice none 0 0] 29)
  rw [show (w.alloc (.cells #[.int .i64 p, .slice a st.length c] 26)).heap.size = w.heap.size + 1 by simp] at h
  rw [hW0]; exact h
 have hzz : w.heap.size + 1 + 1 <= W0.heap.size := by rw [hW0]; simp
 have hs := hs.below hb0
 have hc : Chg q (q + 1) w W0 := Chg.below hb0
 rw [<- hW0]; clear hW0 hb0
 go_upto_region 1 with fail
 refine @region_flowR ⟨q, q + 1⟩ _ [(false, [(0, 0), (1, 1), (3, 0), (4, 1), (2, 5)]), (false, [(5, 4), (6, 0), (7, 0)])] _ _ _ _ _ (by kernel_rfl) ?_
 refine norm_K fun K hK => ?_
 change wpList _ _ _ [_, _, _, _, _] _ _
 have hbq : Below W0.heap.size W0 W0.drew := bwT
 have hs := hs.below hbq; have hc := hc.bl (hbq.mono hc.size); have hBd := hBd.below hbq; have hR := hR.below hbq
 have hzz : w.heap.size + 1 + 1 <= W0.drew.heap.size := hzz
 clear hbq
 generalize W0.drew = wq at *
 have hcq : Chg q (q + 1) wq wq := Chg.refl
 have d0 := hBd.c0; have d1 := hBd.c1; have hld := hBd
 go_wp2_with fail
 refine (sdrawelF_c hs (by omega) (by omega) hl3).mono ?_; rintro e w2 ⟨u, us, rfl, hul, hu, hs, hc2⟩
 obtain ⟨au, cu, rfl, _⟩ := id hu.1.1.op
 have hu := hu.more hzz
 have hzz := Nat.le_trans hzz hc2.size
 have hcq := hcq.trans hc2
 clear hc2
 go_wp2_with fail
 first | (refine hK _ _ ⟨hcq, ?_⟩; clear hK K) | refine ⟨hcq, ?_⟩
 refine norm_K fun K hK => ?_
 change wpList _ _ _ [_, _, _] _ _
 go_wp2_with fail
 refine (sdrawelF_c hs (by omega) (by omega) hl3).mono ?_; rintro e w3 ⟨u2, us2, rfl, hul2, hu2, hs, hc3⟩
 obtain ⟨au2, cu2, rfl, _⟩ := id hu2.1.1.op
 have hu := hu.chg hc3 (by omega)
 have hu2 := hu2.more hzz
 have hzz := Nat.le_trans hzz hc3.size
 have hcq := hcq.trans hc3
 clear hc3
 go_wp2_with fail
 first | (refine hK _ _ ⟨⟨rfl, ?_⟩, ?_⟩; clear hK K) | refine ⟨⟨rfl, ?_⟩, ?_⟩
 ·repeat' (first | exact trivial | exact ⟨_, rfl, HLT.out, _, _, _, hld⟩ | refine And.intro ?_ ?_)
 have hBd := hBd.chg hcq (.inr (by omega)); have hR := hR.chg hcq (.inr (by omega)); have hc := hc.trans hcq
 clear hcq d0 d1 hld
 go_upto_block 0 with fail
 go_cut [5, 6] (fun s5 s6 wx => EvR wx (w.heap.size + 1 + 1) p (sz st.length) s5 /\ EvR wx (w.heap.size + 1 + 1) p (sz st.length) s6 /\ Src wx q /\ Chg q (q + 1) w wx /\ Bd wx w.heap.size (.int .i64 p) (.slice a st.length c) /\ Bt wx (w.heap.size + 1) (.slice none 0 0) (.slice none 0 0) (.slice none 0 0) /\ w.heap.size + 1 + 1 <= wx.heap.size)
 case first =>
  have k1 := fun W (h : El W (.slice a st.length c) st) (h' : El W (.slice au us.length cu) us) => selem_c (w := W) (p := p) h h' (by omega) (by omega) (by omega) (by omega)
  have k2 := fun W (h : El W (.slice a st.length c) st) (h' : El W (.slice au2 us2.length cu2) us2) => selem_c (w := W) (p := p) h h' (by omega) (by omega) (by omega) (by omega)
  obtain ⟨b1, hb1⟩ : ∃ b, b = isE p (sz st.length) us := ⟨_, rfl⟩
  obtain ⟨b2, hb2⟩ : ∃ b, b = isE p (sz st.length) us2 := ⟨_, rfl⟩
  rw [<- hb1] at k1; rw [<- hb2] at k2
  have HB1 := Lib.hid hb1; have HB2 := Lib.hid hb2; clear hb1 hb2
  go_wp2_with fail
  refine wp_loop_rounds 2 ?_; rw [rounds_succ]
  cases b1 with
  | true =>
   have d0 := hBd.c0; have d1 := hBd.c1
   go_wp2_with fail
   refine (k1 _ (hE0.chg hc (Nat.le_refl _)).1 hu.1.1).mono ?_; rintro e w5 ⟨rfl, hb_⟩
   have hBd := hBd.below hb_; have hR := hR.below hb_; have hu := hu.below hb_; have hu2 := hu2.below hb_; have hs := hs.below hb_; have hc := hc.bl (hb_.mono hc.size); have hzz := Nat.le_trans hzz hb_.size
   clear hb_ d0 d1
   cases b2 with
   | true =>
    have d0 := hBd.c0; have d1 := hBd.c1
    go_wp2_with fail
    refine (k2 _ (hE0.chg hc (Nat.le_refl _)).1 hu2.1.1).mono ?_; rintro e w6 ⟨rfl, hb_⟩
    have hBd := hBd.below hb_; have hR := hR.below hb_; have hu := hu.below hb_; have hu2 := hu2.below hb_; have hs := hs.below hb_; have hc := hc.bl (hb_.mono hc.size); have hzz := Nat.le_trans hzz hb_.size
    clear hb_ d0 d1
    go_wp2_with fail
    go_meet
    case rel => exact ⟨⟨us, hu, isE_iff.1 HB1.out.symm⟩, ⟨us2, hu2, isE_iff.1 HB2.out.symm⟩, hs, hc, hBd, hR, hzz⟩
   | false =>
    have d0 := hBd.c0; have d1 := hBd.c1
    go_wp2_with fail
    refine (k2 _ (hE0.chg hc (Nat.le_refl _)).1 hu2.1.1).mono ?_; rintro e w6 ⟨rfl, hb_⟩
    have hBd := hBd.below hb_; have hR := hR.below hb_; have hu := hu.below hb_; have hu2 := hu2.below hb_; have hs := hs.below hb_; have hc := hc.bl (hb_.mono hc.size); have hzz := Nat.le_trans hzz hb_.size
    clear hb_ d0 d1
    have d0 := hBd.c0; have d1 := hBd.c1
    go_wp2_with fail
    refine (kone _ (hE0.chg hc (Nat.le_refl _)).1).mono ?_; rintro e v1 ⟨z1, rfl, hz1, hb_⟩
    obtain ⟨az1, cz1, rfl, _⟩ := id hz1.el.op
    have hz1 := hz1.elf.more (B' := w.heap.size + 1 + 1) hzz
    have hBd := hBd.below hb_; have hR := hR.below hb_; have hs := hs.below hb_; have hc := hc.bl (hb_.mono hc.size); have hzz := Nat.le_trans hzz hb_.size
    clear hb_ d0 d1
    have d0 := hBd.c0; have d1 := hBd.c1
    go_wp2_with fail
    refine (kone _ (hE0.chg hc (Nat.le_refl _)).1).mono ?_; rintro e v2 ⟨z2, rfl, hz2, hb_⟩
    obtain ⟨az2, cz2, rfl, _⟩ := id hz2.el.op
    have hz2 := hz2.elf.more (B' := w.heap.size + 1 + 1) hzz
    have hBd := hBd.below hb_; have hR := hR.below hb_; have hz1 := hz1.below hb_; have hs := hs.below hb_; have hc := hc.bl (hb_.mono hc.size); have hzz := Nat.le_trans hzz hb_.size
    clear hb_ d0 d1
    go_wp2_with fail
    rw [rounds_succ]
    have d0 := hBd.c0; have d1 := hBd.c1
    go_wp2_with fail
    refine (koe _ _ _ (hE0.chg hc (Nat.le_refl _)).1 hz1.1.1).mono ?_; rintro e v3 ⟨rfl, hb_⟩
    have hBd := hBd.below hb_; have hR := hR.below hb_; have hz1 := hz1.below hb_; have hz2 := hz2.below hb_; have hs := hs.below hb_; have hc := hc.bl (hb_.mono hc.size); have hzz := Nat.le_trans hzz hb_.size
    clear hb_ d0 d1
    have d0 := hBd.c0; have d1 := hBd.c1
    go_wp2_with fail
    refine (koe _ _ _ (hE0.chg hc (Nat.le_refl _)).1 hz2.1.1).mono ?_; rintro e v4 ⟨rfl, hb_⟩
    have hBd := hBd.below hb_; have hR := hR.below hb_; have hz1 := hz1.below hb_; have hz2 := hz2.below hb_; have hs := hs.below hb_; have hc := hc.bl (hb_.mono hc.size); have hzz := Nat.le_trans hzz hb_.size
    clear hb_ d0 d1
    go_wp2_with fail
    go_meet
    case rel => exact ⟨⟨O, hz1, e1⟩, ⟨O, hz2, e1⟩, hs, hc, hBd, hR, hzz⟩
  | false =>
   have d0 := hBd.c0; have d1 := hBd.c1
   go_wp2_with fail
   refine (k1 _ (hE0.chg hc (Nat.le_refl _)).1 hu.1.1).mono ?_; rintro e w5 ⟨rfl, hb_⟩
   have hBd := hBd.below hb_; have hR := hR.below hb_; have hu := hu.below hb_; have hu2 := hu2.below hb_; have hs := hs.below hb_; have hc := hc.bl (hb_.mono hc.size); have hzz := Nat.le_trans hzz hb_.size
   clear hb_ d0 d1
   have d0 := hBd.c0; have d1 := hBd.c1
   go_wp2_with fail
   refine (kone _ (hE0.chg hc (Nat.le_refl _)).1).mono ?_; rintro e v11 ⟨z1, rfl, hz1, hb_⟩
   obtain ⟨az1, cz1, rfl, _⟩ := id hz1.el.op
   have hz1 := hz1.elf.more (B' := w.heap.size + 1 + 1) hzz
   have hBd := hBd.below hb_; have hR := hR.below hb_; have hs := hs.below hb_; have hc := hc.bl (hb_.mono hc.size); have hzz := Nat.le_trans hzz hb_.size
   clear hb_ d0 d1
   have d0 := hBd.c0; have d1 := hBd.c1
   go_wp2_with fail
   refine (kone _ (hE0.chg hc (Nat.le_refl _)).1).mono ?_; rintro e v12 ⟨z2, rfl, hz2, hb_⟩
   obtain ⟨az2, cz2, rfl, _⟩ := id hz2.el.op
   have hz2 := hz2.elf.more (B' := w.heap.size + 1 + 1) hzz
   have hBd := hBd.below hb_; have hR := hR.below hb_; have hz1 := hz1.below hb_; have hs := hs.below hb_; have hc := hc.bl (hb_.mono hc.size); have hzz := Nat.le_trans hzz hb_.size
   clear hb_ d0 d1
   go_wp2_with fail
   rw [rounds_succ]
   have d0 := hBd.c0; have d1 := hBd.c1
   go_wp2_with fail
   refine (koe _ _ _ (hE0.chg hc (Nat.le_refl _)).1 hz1.1.1).mono ?_; rintro e v13 ⟨rfl, hb_⟩
   have hBd := hBd.below hb_; have hR := hR.below hb_; have hz1 := hz1.below hb_; have hz2 := hz2.below hb_; have hs := hs.below hb_; have hc := hc.bl (hb_.mono hc.size); have hzz := Nat.le_trans hzz hb_.size
   clear hb_ d0 d1
   have d0 := hBd.c0; have d1 := hBd.c1
   go_wp2_with fail
   refine (koe _ _ _ (hE0.chg hc (Nat.le_refl _)).1 hz2.1.1).mono ?_; rintro e v14 ⟨rfl, hb_⟩
   have hBd := hBd.below hb_; have hR := hR.below hb_; have hz1 := hz1.below hb_; have hz2 := hz2.below hb_; have hs := hs.below hb_; have hc := hc.bl (hb_.mono hc.size); have hzz := Nat.le_trans hzz hb_.size
   clear hb_ d0 d1
   go_wp2_with fail
   go_meet
   case rel => exact ⟨⟨O, hz1, e1⟩, ⟨O, hz2, e1⟩, hs, hc, hBd, hR, hzz⟩
 case' rest => skip
 clear hu hu2 hs hc hBd hR hzz kone koe e1
 obtain ⟨hx5, hy5, hs, hc, hBd, hR, hzz⟩ := hcut
 obtain ⟨bx, ox, c5, y0, rfl, _, _, hcl, hfz, hbB, hbl⟩ := hx5.at (k := 0) hsz.1
 obtain ⟨by_, oy, c6, y1, rfl, _⟩ := hy5.at (k := 0) hsz.1
 rw [Nat.add_zero] at hcl
 have hfz0 := hfz ox
 go_upto_region 6 with fail
 obtain ⟨W5, hW5⟩ : ∃ x, x = wc.setCell ⟨bx, ox, none⟩ (.int .i64 0) := ⟨_, rfl⟩
 have hbs : Below (w.heap.size + 1 + 1) wc W5 := by rw [hW5]; exact (Below.refl _ _).setCell (p := ⟨bx, ox, none⟩) hbB _
 have hx5 : EvR W5 (w.heap.size + 1 + 1) p (sz st.length) (.slice (some ⟨bx, ox, none⟩) (sz st.length) c5) := by rw [hW5]; exact hx5.setI (by omega) (by omega)
 have hy5 : EvR W5 (w.heap.size + 1 + 1) p (sz st.length) (.slice (some ⟨by_, oy, none⟩) (sz st.length) c6) := by rw [hW5]; exact hy5.setI (by omega) (by omega)
 have hs := hs.bl hbs (by omega); have hc := hc.bl (hbs.mono (by omega)); have hBd := hBd.bl hbs (by omega); have hR := hR.bl hbs (by omega)
 have hzz := Nat.le_trans hzz hbs.size
 rw [<- hW5]; clear hW5 hbs hcl hfz hfz0 hbB hbl
 obtain ⟨xs, hx, ex⟩ := hx5
 obtain ⟨ys, hy, ey⟩ := hy5
 have d0 := hBd.c0; have d1 := hBd.c1
 go_wp2_with fail
 refine (spure_t hd (hE0.chg hc (Nat.le_refl _)).1 hx.1.1 ex).mono ?_; rintro e w6 ⟨x1, x2, x3, rfl, hT, hb6⟩
 obtain ⟨a1_, c1_, a2_, c2_, a3_, c3_, rfl, rfl, rfl⟩ := hT.form
 have hT := hT.more hzz
 have hBd := hBd.below hb6; have hR := hR.below hb6; have hx := hx.below hb6; have hy := hy.below hb6; have hs := hs.below hb6; have hc := hc.bl (hb6.mono hc.size); have hzz := Nat.le_trans hzz hb6.size
 clear hb6 d0 d1
 go_upto_region 7 with fail
 obtain ⟨W7, hW7⟩ : ∃ x, x = w6.alloc (.cells #[.slice a1_ (sz st.length) c1_, .slice a2_ (sz st.length) c2_, .slice a3_ (sz st.length) c3_] 29) := ⟨_, rfl⟩
 have hb7 : Below w6.heap.size w6 W7 := by rw [hW7]; exact bwT
 obtain ⟨N, hN_⟩ : ∃ N, N = w6.heap.size := ⟨_, rfl⟩
 have hN : Bt W7 N (.slice a1_ (sz st.length) c1_) (.slice a2_ (sz st.length) c2_) (.slice a3_ (sz st.length) c3_) := by rw [hW7, hN_]; exact heap_alloc_new w6 _
 have hNz : w.heap.size + 1 + 1 <= N := by rw [hN_]; exact hzz
 rw [<- hW7, <- hN_]
 have hBd := hBd.below hb7; have hR := hR.below hb7; have hx := hx.below hb7; have hy := hy.below hb7; have hs := hs.below hb7; have hc := hc.bl (hb7.mono hc.size); have hzz := Nat.le_trans hzz hb7.size
 have hT := hT.below hb7
 clear hb7 hW7 hN_
 go_wp2_with fail
 refine (snext_c hs (by decide) (by decide)).mono ?_; rintro e w8 ⟨f, rfl, hf0_, hf1_, hs, hc8, hz8_⟩
 have hN := hN.chg hc8 (.inr (by omega)); have hT := hT.chg hc8 (by omega); have hBd := hBd.chg hc8 (.inr (by omega)); have hR := hR.chg hc8 (.inr (by omega)); have hx := hx.chg hc8 (by omega); have hy := hy.chg hc8 (by omega); have hc := hc.trans hc8
 clear hc8 hz8_ hf0_ hf1_
 go_upto_if 36 with fail
 go_cut [] (fun wx => ∃ (x1 x2 x3 : Value), Bt wx N x1 x2 x3 /\ Tm wx (w.heap.size + 1 + 1) p (sz st.length) x1 x2 x3 /\ Src wx q /\ Chg q (q + 1) w wx /\ Bt wx (w.heap.size + 1) (.slice none 0 0) (.slice none 0 0) (.slice none 0 0))
 case first =>
  by_cases hf : f = 0
  case neg =>
   have hfb : (f == 0) = false := by simpa using hf
   go_wp2_with fail
   go_meet
   case rel => exact ⟨_, _, _, hN, hT, hs, hc, hR⟩
  have hfb : (f == 0) = true := by simpa using hf
  clear hf
  have d0 := hBd.c0; have d1 := hBd.c1
  have hNl := hN.lt
  go_wp2_with fail
  refine (sinner_t hd (hE0.chg hc (Nat.le_refl _)).1 hx.1.1 hy.1.1 ex ey).mono ?_; rintro e w9 ⟨m, rfl, hm, hb9⟩
  obtain ⟨am, cm, rfl⟩ := hm.form
  have hm := hm.more (B' := N + 1) hNl
  have hN := hN.below hb9; have hs := hs.below hb9; have hc := hc.bl (hb9.mono hc.size); have hR := hR.below hb9
  have hNl := Nat.le_trans hNl hb9.size
  clear hb9 d0 d1
  go_wp2_with fail
  refine (sown2_t hsz.1 (by omega) hm).mono ?_; rintro e w10 ⟨o1, rfl, ho1, hb10⟩
  obtain ⟨ao1, co1, rfl⟩ := ho1.form
  have ho1 := ho1.more (B' := N + 1) hNl
  have hm := hm.below hb10; have hN := hN.below hb10; have hs := hs.below hb10; have hc := hc.bl (hb10.mono hc.size); have hR := hR.below hb10
  have hNl := Nat.le_trans hNl hb10.size
  clear hb10
  go_wp2_with fail
  refine (sown2_t hsz.1 (by omega) hm).mono ?_; rintro e w11 ⟨o2, rfl, ho2, hb11⟩
  obtain ⟨ao2, co2, rfl⟩ := ho2.form
  have ho2 := ho2.more (B' := N + 1) hNl
  have hm := hm.below hb11; have ho1 := ho1.below hb11; have hN := hN.below hb11; have hs := hs.below hb11; have hc := hc.bl (hb11.mono hc.size); have hR := hR.below hb11
  clear hb11
  have n0 := hN.c0; have n1 := hN.c1; have n2 := hN.c2; have nf0 := hN.f 0; have nf1 := hN.f 1; have nf2 := hN.f 2
  go_wp2_with fail
  go_meet
  case rel =>
   have hbF := fun x y z => blw_set3 (v := w11) (x := x) (y := y) (z := z) hNz
   have hT2 : Tm w11 (N + 1) p (sz st.length) _ _ _ := ⟨hm, ho1, ho2⟩
   exact ⟨_, _, _, hN.put _ _ _, (hT2.set3 (Nat.lt_succ_self _) _ _ _).more (by omega), hs.bl (hbF _ _ _) (by omega), hc.bl ((hbF _ _ _).mono (by omega)), hR.bl (hbF _ _ _) (by omega)⟩
 case' rest => skip
 clear hx hy ex ey hN hT hs hc hR hBd
 obtain ⟨x1, x2, x3, hN, hT, hs, hc, hR⟩ := hcut
 obtain ⟨a1, c1, a2, c2, a3, c3, rfl, rfl, rfl⟩ := hT.form
 go_wp2_with fail
 refine (snext_c hs (by decide) (by decide)).mono ?_; rintro e w12 ⟨f2, rfl, hf0_, hf1_, hs, hc12, hz12_⟩
 have hN := hN.chg hc12 (.inr (by omega)); have hT := hT.chg hc12 (by omega); have hR := hR.chg hc12 (.inr (by omega)); have hc := hc.trans hc12
 clear hc12 hz12_ hf0_ hf1_
 go_upto_if 49 with fail
 go_cut [] (fun wx => ∃ (x1 x2 x3 : Value), Bt wx N x1 x2 x3 /\ Tm wx (w.heap.size + 1 + 1) p (sz st.length) x1 x2 x3 /\ Src wx q /\ Chg q (q + 1) w wx /\ Bt wx (w.heap.size + 1) (.slice none 0 0) (.slice none 0 0) (.slice none 0 0))
 case first =>
  by_cases hf : f2 = 0
  case neg =>
   have hfb : (f2 == 0) = false := by simpa using hf
   go_wp2_with fail
   go_meet
   case rel => exact ⟨_, _, _, hN, hT, hs, hc, hR⟩
  have hfb : (f2 == 0) = true := by simpa using hf
  clear hf
  have hNl := hN.lt
  have n0 := hN.c0; have n1 := hN.c1; have n2 := hN.c2
  go_wp2_with fail
  refine (sown15_t hsz.1 (by omega) hT.rot).mono ?_; rintro e w13 ⟨y1, y2, y3, rfl, hP, hb13⟩
  obtain ⟨e1_, f1_, e2_, f2_, e3_, f3_, rfl, rfl, rfl⟩ := hP.form
  have hN := hN.below hb13; have hs := hs.below hb13; have hc := hc.bl (hb13.mono hc.size); have hR := hR.below hb13
  clear hb13 n0 n1 n2 hT
  have n0 := hN.c0; have n1 := hN.c1; have n2 := hN.c2; have nf0 := hN.f 0; have nf1 := hN.f 1; have nf2 := hN.f 2
  go_wp2_with fail
  go_meet
  case rel =>
   have hbF := fun x y z => blw_set3 (v := w13) (x := x) (y := y) (z := z) hNz
   exact ⟨_, _, _, hN.put _ _ _, (hP.set3 hNl _ _ _).more (by omega), hs.bl (hbF _ _ _) (by omega), hc.bl ((hbF _ _ _).mono (by omega)), hR.bl (hbF _ _ _) (by omega)⟩
 case' rest => skip
 clear hN hT hs hc hR
 obtain ⟨x1, x2, x3, hN, hT, hs, hc, hR⟩ := hcut
 obtain ⟨a1, c1, a2, c2, a3, c3, rfl, rfl, rfl⟩ := hT.form
 have m0 := hN.c0; have m1 := hN.c1; have m2 := hN.c2; have r0 := hR.c0; have r1 := hR.c1; have r2 := hR.c2; have rf0 := hR.f 0; have rf1 := hR.f 1; have rf2 := hR.f 2
 go_wp2_with fail
 refine bodyPost_ret (v := .agg #[.slice a1 (sz st.length) c1, .slice a2 (sz st.length) c2, .slice a3 (sz st.length) c3]) (by simp [results, Tryz.results93, go_sem, r0, r1, r2]) rfl ?_
 have hbF := fun x y z => blw_set3 (v := wc) (B := w.heap.size) (N := w.heap.size + 1) (x := x) (y := y) (z := z) (by omega)
 exact ⟨_, _, _, rfl, (hT.set3 (by omega) _ _ _).more (by omega), hs.bl (hbF _ _ _) (by omega), hc.bl (hbF _ _ _)⟩
end
theorem Co.wide {w : World} {q q' n : Nat} {v : Value} (h : Co w q v n) (hq : q <= q') : Co w q' v n := by
 obtain ⟨a, c, rfl, hn, h⟩ := h
 refine ⟨a, c, rfl, hn, ?_⟩
 rcases h with h | ⟨b, off, ha, hb, h⟩
 ·exact .inl h
 ·exact .inr ⟨b, off, ha, by omega, h⟩

theorem chg_set_ {lo hi b k : Nat} {w w' : World} (h : Chg lo hi w w') (h1 : lo <= b) (h2 : b < hi) (u : Value) : Chg lo hi w (w'.setCell ⟨b, k, none⟩ u) :=
 h.trans ((Chg.set w' ⟨b, k, none⟩ u).wide (lo' := lo) (hi' := hi) h1 h2)
theorem ElR.shape_ {w : World} {B : Nat} {v : Value} {xs : List Int} (h : ElR w B v xs) : ∃ a c, v = .slice a xs.length c := by
 obtain ⟨a, c, rfl, _⟩ := h.1.op
 exact ⟨_, _, rfl⟩
theorem ReR.shape {w : World} {B : Nat} {v : Value} {xss : List (List Int)} (h : ReR w B v xss) : ∃ a c, v = .slice a xss.length c := by
 obtain ⟨a, c, rfl, _⟩ := h
 exact ⟨_, _, rfl⟩
theorem ReR.nil_ {w : World} {B c : Nat} {a : Option Addr} (hc : c <= 9223372036854775807) : ReR w B (.slice a 0 c) [] := ⟨a, c, rfl, Nat.zero_le _, hc, .inl rfl⟩
theorem ReR.cap {w : World} {B n c : Nat} {a : Option Addr} {xss : List (List Int)} (h : ReR w B (.slice a n c) xss) : n = xss.length /\ xss.length <= c /\ c <= 9223372036854775807 := by
 obtain ⟨_, _, e, h1, h2, _⟩ := h
 cases e
 exact ⟨rfl, h1, h2⟩
theorem ReR.tail {w : World} {B c n : Nat} {b off : Nat} {x : List Int} {xss : List (List Int)} (h : ReR w B (.slice (some ⟨b, off, none⟩) n c) (x :: xss)) : ReR w B (.slice (some ⟨b, off + 1, none⟩) (n - 1) (c - 1)) xss := by
 obtain ⟨a, c', e, h1, h2, h3⟩ := h
 cases e
 rw [List.length_cons] at h1
 refine ⟨some ⟨b, off + 1, none⟩, c - 1, by simp, by omega, by omega, ?_⟩
 rcases h3 with h3 | ⟨b', off', e, hB, h3⟩
 ·cases h3
 ·cases e
  refine .inr ⟨b, off + 1, rfl, hB, fun j hj => ?_⟩
  obtain ⟨u, hu, he⟩ := h3 (j + 1) (by rw [List.length_cons]; omega)
  exact ⟨u, by rw [show off + 1 + j = off + (j + 1) by omega]; exact hu, he⟩
end Go.Proofs.YteaaepbnoiecoaaGreat
