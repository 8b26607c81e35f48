import Derived.Test.YteaaepbnoiecoaaGreatGuC
namespace Go.Proofs.YteaaepbnoiecoaaGreat
open Go.RowKit
section
variable {p : Int} {s x y z : Value} {st xs ys zs : List Int} {w : World}
set_option maxHeartbeats 4000000 in
set_option maxRecDepth 100000 in
theorem sl15u_c (hd : Dok p st) (hs : El w s st) (hx : El w x xs) (ex : Ev p (sz st.length) xs) :
  Calls Tryz.prog 48 #[.agg #[.int .i64 p, s], x] w fun e w' => TrE w (unA p st xs) (unB p st xs) (unC p st xs) e w' := by
 have h1 : 1 <= p := by have := hd.hp.lo; omega
 have h2 : 2 <= p := by have := hd.hp.lo; omega
 have h13 := hd.hp.hi; have hsz := sz_le hd; have hl3 := hd.hl
 have e1 : ∀ i, Ev p (sz st.length) (oneL (sz st.length) i) := fun i => ⟨oneL_len, oneL_fp h2⟩
 have eb := ex.conj h1
 have hxl := ex.1
 have kst := fun W (h : El W x xs) => sstar_c (w := W) (p := p) h2 (by omega) h (by omega) ex.2 (by omega)
 have huc : unC p st xs = trL ((List.range (sz st.length)).map (unF p st (conjL p xs))) (sz st.length) := rfl
 obtain ⟨E, hE⟩ : ∃ E, E = conjL p xs := ⟨_, rfl⟩
 rw [<- hE] at eb huc
 simp only [<- hE] at kst
 clear hE
 have e2 : ∀ i, Ev p (sz st.length) (mulL p st E (oneL (sz st.length) i)) := fun i => mulL_ev h1 eb (e1 i)
 have hev : ∀ i, Ev p (sz st.length) (unF p st E i) := fun i => mulL_ev h1 (e2 i) eb
 have hv : ∀ i, mulL p st (mulL p st E (oneL (sz st.length) i)) E = unF p st E i := fun _ => rfl
 obtain ⟨F, hF⟩ : ∃ F : Nat -> List Int, F = unF p st E := ⟨_, rfl⟩
 rw [<- hF] at hev hv huc
 have hcol := fun (W : World) v (h : Re W v ((List.range (sz st.length)).map F)) => scolsF_c (w := W) (L := (List.range (sz st.length)).map F) h (fun r hr => by obtain ⟨i, _, rfl⟩ := List.mem_map.1 hr; rw [(hev i).1]; simp) (by simp; omega) (by simp; omega)
 rw [cols_len, <- huc] at hcol
 have kl := fun W (h : El W s st) (h' : El W x xs) => sleft_c (w := W) hd h h' ex
 have kr := fun W (h : El W s st) (h' : El W x xs) => sright_c (w := W) hd h h' ex
 obtain ⟨X, hX⟩ : ∃ X, X = unA p st xs := ⟨_, rfl⟩; obtain ⟨Y, hY⟩ : ∃ Y, Y = unB p st xs := ⟨_, rfl⟩; obtain ⟨Z, hZ⟩ : ∃ Z, Z = unC p st xs := ⟨_, rfl⟩
 simp only [<- hX, <- hY] at kl kr ⊢
 rw [<- hZ] at hcol ⊢
 have HV := Lib.hid hv; have HEV := Lib.hid hev; have HE1 := Lib.hid e1; have HE2 := Lib.hid e2; clear hv hev huc hF e1 e2 hX hY hZ hxl ex
 obtain ⟨a, c, rfl, _⟩ := id hs.op
 obtain ⟨a1, c1, rfl, _⟩ := id hx.op
 go_enter Tryz.func48, Tryz.ntmps48
 have hb0 : Below w.heap.size w ((w.alloc (.cells #[.int .i64 p, .slice a st.length c] 26)).alloc (.cells #[.slice none 0 0, .slice none 0 0, .slice none 0 0] 29)) := bwT
 have hs := hs.below hb0; have hx := hx.below hb0
 have d0 : ((w.alloc (.cells #[.int .i64 p, .slice a st.length c] 26)).alloc (.cells #[.slice none 0 0, .slice none 0 0, .slice none 0 0] 29)).cell? ⟨w.heap.size, 0, none⟩ = some (.int .i64 p) := by simp [go_sem]
 have d1 : ((w.alloc (.cells #[.int .i64 p, .slice a st.length c] 26)).alloc (.cells #[.slice none 0 0, .slice none 0 0, .slice none 0 0] 29)).cell? ⟨w.heap.size, 1, none⟩ = some (.slice a st.length c) := by simp [go_sem]
 have r0 : ((w.alloc (.cells #[.int .i64 p, .slice a st.length c] 26)).alloc (.cells #[.slice none 0 0, .slice none 0 0, .slice none 0 0] 29)).cell? ⟨w.heap.size + 1, 0, none⟩ = some (.slice none 0 0) := by simp [go_sem]
 have r1 : ((w.alloc (.cells #[.int .i64 p, .slice a st.length c] 26)).alloc (.cells #[.slice none 0 0, .slice none 0 0, .slice none 0 0] 29)).cell? ⟨w.heap.size + 1, 1, none⟩ = some (.slice none 0 0) := by simp [go_sem]
 have r2 : ((w.alloc (.cells #[.int .i64 p, .slice a st.length c] 26)).alloc (.cells #[.slice none 0 0, .slice none 0 0, .slice none 0 0] 29)).cell? ⟨w.heap.size + 1, 2, none⟩ = some (.slice none 0 0) := by simp [go_sem]
 have hr : Bt ((w.alloc (.cells #[.int .i64 p, .slice a st.length c] 26)).alloc (.cells #[.slice none 0 0, .slice none 0 0, .slice none 0 0] 29)) (w.heap.size + 1) (.slice none 0 0) (.slice none 0 0) (.slice none 0 0) := by
  have h := heap_alloc_new (w.alloc (.cells #[.int .i64 p, .slice a st.length c] 26)) (.cells #[.slice none 0 0, .slice none 0 0, .slice none 0 0] 29)
  rw [show (w.alloc (.cells #[.int .i64 p, .slice a st.length c] 26)).heap.size = w.heap.size + 1 by simp] at h
  exact h
 clear r0 r1 r2
 have hz0 : w.heap.size + 1 + 1 <= ((w.alloc (.cells #[.int .i64 p, .slice a st.length c] 26)).alloc (.cells #[.slice none 0 0, .slice none 0 0, .slice none 0 0] 29)).heap.size := by simp
 go_wp2_with fail
 refine (kst _ hx).mono ?_; rintro e w1 ⟨vb, rfl, hvb, hb1⟩
 have hs := hs.below hb1; have hx := hx.below hb1; have d0 := kept hb1 d0; have d1 := kept hb1 d1; have hr := hr.below hb1
 obtain ⟨ab, cb, rfl, _⟩ := id hvb.el.op
 have hz1 : w.heap.size + 1 + 1 <= w1.heap.size := Nat.le_trans hz0 hb1.size
 have hbw : Below w.heap.size w w1 := bwT
 have hl0 := LsR.new (w := w1) (B := w1.heap.size) (Nat.le_refl _)
 have hbA : Below w1.heap.size w1 (w1.alloc (.cells #[] 24)) := bwT
 have hs1 := hs; have hx1 := hx; have d01 := d0; have d11 := d1; have hvb1 := hvb; have hr1 := hr
 clear hb0 hb1 hz0
 go_wp2_with fail
 clear hs hx d0 d1 hvb hr
 go_loopw [6, 7] (fun o q wr => ∃ (k : Nat) (us : List Value), k <= sz st.length /\ q = .int .i64 k /\ LsR wr w1.heap.size o us ((List.range k).map F) /\ Below w1.heap.size w1 wr) (fun _ q _ => sz st.length - (intOf q).toNat)
 case atStart => exact ⟨0, [], Nat.zero_le _, rfl, hl0, hbA⟩
 case round =>
  clear hl0 hbA
  obtain ⟨k, us, hk, rfl, hl, hbr⟩ := hrel
  obtain ⟨al, cl, rfl⟩ := hl.form
  have hul := hl.len; rw [cols_len] at hul
  have HUL := Lib.hid hul; clear hul
  have hs := hs1.below hbr; have hx := hx1.below hbr; have d0 := kept hbr d01; have d1 := kept hbr d11; have hvb := hvb1.below hbr; have hr := hr1.below hbr
  have hwr := hbr.size
  clear hs1 hx1 d01 d11 hvb1 hr1
  by_cases hlt : k < sz st.length
  ·have hlti : (k : Int) < sz st.length := by omega
   obtain ⟨J, hJ⟩ : ∃ J, J = F k := ⟨_, rfl⟩
   have HV1 := Lib.hid ((HV.out k).trans hJ.symm)
   have hnext : (List.range (k + 1)).map F = (List.range k).map F ++ [J] := by rw [hJ]; exact cols_succ
   obtain ⟨I, hI⟩ : ∃ I, I = (List.range k).map F := ⟨_, rfl⟩
   rw [<- hI] at hl hnext
   have HN := Lib.hid hnext
   clear hJ hI hnext
   generalize wr = wo at *
   go_wp2_with fail
   refine (ssize_c (by omega)).mono ?_; rintro e w21 ⟨rfl, hb21⟩
   have hs := hs.below hb21; have hx := hx.below hb21; have d0 := kept hb21 d0; have d1 := kept hb21 d1; have hvb := hvb.below hb21; have hr := hr.below hb21; have hl := hl.below hb21
   go_wp2_with fail
   refine region_flow [(false, [(0, 0), (1, 1), (2, 1), (3, 0), (4, 1), (5, 0), (8, 0), (6, 5)]), (false, [(7, 5)]), (false, [(9, 4), (10, 4), (11, 4), (12, 0)])] (by kernel_rfl) ?_
   refine norm_K fun K hK => ?_
   change wpList _ _ _ [_, _, _, _, _, _, _, _] _ _
   have hb22 : Below w21.heap.size w21 w21.drew := bwT
   have hs := hs.below hb22; have hx := hx.below hb22; have d0 := kept hb22 d0; have d1 := kept hb22 d1; have hvb := hvb.below hb22; have hr := hr.below hb22; have hl := hl.below hb22
   generalize w21.drew = wq at *
   go_wp2_with fail
   refine (sone_c hd hs hlt).mono ?_; rintro e w23 ⟨vz, rfl, hzv, hb23⟩
   have hs := hs.below hb23; have hx := hx.below hb23; have d0 := kept hb23 d0; have d1 := kept hb23 d1; have hvb := hvb.below hb23; have hr := hr.below hb23; have hl := hl.below hb23
   go_wp2_with fail
   have hz0 : Below wq.heap.size wq w23 := bwT
   first | (refine hK _ _ ⟨hz0, ?_⟩; clear hK K) | refine ⟨hz0, ?_⟩
   clear hz0
   refine norm_K fun K hK => ?_
   change wpList _ _ _ [_] _ _
   obtain ⟨az, cz, rfl, _⟩ := id hzv.el.op
   go_wp2_with fail
   refine (stimes_c hd hs hvb.el hzv.el eb (HE1.out k)).mono ?_; rintro e w24 ⟨v3, rfl, hv3, hb24⟩
   have hs := hs.below hb24; have hx := hx.below hb24; have d0 := kept hb24 d0; have d1 := kept hb24 d1; have hvb := hvb.below hb24; have hr := hr.below hb24; have hl := hl.below hb24; have hzv := hzv.below hb24
   go_wp2_with fail
   have hz1 : Below wq.heap.size wq w24 := bwT
   first | (refine hK _ _ ⟨hz1, ?_⟩; clear hK K) | refine ⟨hz1, ?_⟩
   clear hz1
   refine norm_K fun K hK => ?_
   change wpList _ _ _ [_, _, _, _] _ _
   obtain ⟨a3, c3, rfl, _⟩ := id hv3.el.op
   have hlp := hl
   go_wp2_with fail
   refine (stimes_c hd hs hv3.el hvb.el (HE2.out k) eb).mono ?_; rintro e w25 ⟨v4, rfl, hv4, hb25⟩
   have hs := hs.below hb25; have hx := hx.below hb25; have d0 := kept hb25 d0; have d1 := kept hb25 d1; have hvb := hvb.below hb25; have hr := hr.below hb25; have hl := hl.below hb25; have hzv := hzv.below hb25; have hv3 := hv3.below hb25
   rw [HV1.out] at hv4
   obtain ⟨a4, c4, rfl, _⟩ := id hv4.el.op
   have hzn := hlp.fresh hv4.elr
   have hb6 : Below wo.heap.size wo w24 := bwT
   have hbB : Below wo.heap.size wo w25 := bwT
   have hnx := hbr.trans (hbB.mono hwr)
   have hcs : w1.heap.size <= w25.heap.size := Nat.le_trans hwr hbB.size
   have hz4 : ElR w25 w1.heap.size _ J := hv4.elr.more (Nat.le_trans hwr hb6.size)
   go_wp2_with (at_builtin; refine appr_one rfl _ _ rfl w25 w1.heap.size _ rfl (.slice al us.length cl) us rfl (.slice a4 J.length c4) 1 rfl rfl hl.own hcs (by have := HUL.out; omega) ?_; intro g' cap' w8 hown' hgb' hg' hge)
   have hl8 := hl.snoc hz4 hzn (nv := .slice (some ⟨g', 0, none⟩) (us.length + 1) cap') rfl hown' hgb' hg' hge
   first | (refine hK _ _ ⟨rfl, ?_⟩; clear hK K) | refine ⟨rfl, ?_⟩
   go_wp2_with fail
   go_roundw
   case rel => exact ⟨k + 1, _, by omega, by go_num, by rw [HN.out]; exact hl8, hnx.trans hgb'⟩
   case measure => simp [intOf]; omega
  ·obtain rfl : k = sz st.length := by omega
   have hlf : ¬ ((sz st.length : Nat) : Int) < sz st.length := by omega
   have hls := hl.rer.re
   generalize wr = wo at *
   go_wp2_with fail
   refine (ssize_c (by omega)).mono ?_; rintro e w51 ⟨rfl, hb51⟩
   have d0 := kept hb51 d0; have d1 := kept hb51 d1; have hs := hs.below hb51; have hx := hx.below hb51; have hls := hls.below hb51; have hr := hr.below hb51
   go_wp2_with fail
   refine region_flow [(false, [(0, 1), (1, 0), (3, 1), (4, 0), (6, 0), (2, 5)]), (false, [(5, 4), (7, 4), (8, 0), (9, 4)])] (by kernel_rfl) ?_
   refine norm_K fun K hK => ?_
   change wpList _ _ _ [_, _, _, _, _, _] _ _
   have hb52 : Below w51.heap.size w51 w51.drew := bwT
   have d0 := kept hb52 d0; have d1 := kept hb52 d1; have hs := hs.below hb52; have hx := hx.below hb52; have hls := hls.below hb52; have hr := hr.below hb52
   generalize w51.drew = wq at *
   have hzq : w.heap.size + 1 + 1 <= wq.heap.size := Nat.le_trans hz1 (Nat.le_trans hwr (Nat.le_trans hb51.size hb52.size))
   go_wp2_with fail
   refine (kl _ hs hx).mono ?_; rintro e w53 ⟨v1, rfl, h1_, hb53⟩
   have d0 := kept hb53 d0; have d1 := kept hb53 d1; have hs := hs.below hb53; have hx := hx.below hb53; have hls := hls.below hb53; have hr := hr.below hb53
   go_wp2_with fail
   have hz0 : Below wq.heap.size wq w53 := bwT
   first | (refine hK _ _ ⟨hz0, ?_⟩; clear hK K) | refine ⟨hz0, ?_⟩
   clear hz0
   refine norm_K fun K hK => ?_
   change wpList _ _ _ [_, _, _, _] _ _
   obtain ⟨g1, q1, rfl⟩ := h1_.shape
   have h1_ := h1_.more hzq
   go_wp2_with fail
   refine (kr _ hs hx).mono ?_; rintro e w54 ⟨v2, rfl, h2_, hb54⟩
   have d0 := kept hb54 d0; have d1 := kept hb54 d1; have hs := hs.below hb54; have hx := hx.below hb54; have hls := hls.below hb54; have hr := hr.below hb54; have h1_ := h1_.below hb54
   obtain ⟨g2, q2, rfl⟩ := h2_.shape
   have h2_ := h2_.more (Nat.le_trans hzq hb53.size)
   go_wp2_with fail
   refine (hcol _ _ hls).mono ?_; rintro e w55 ⟨v3, rfl, h3_, hb55⟩
   have d0 := kept hb55 d0; have d1 := kept hb55 d1; have hs := hs.below hb55; have hx := hx.below hb55; have hls := hls.below hb55; have hr := hr.below hb55; have h1_ := h1_.below hb55; have h2_ := h2_.below hb55
   obtain ⟨g3, q3, rfl⟩ := h3_.shape
   have h3_ := h3_.more (Nat.le_trans hzq (Nat.le_trans hb53.size hb54.size))
   have hfo : Below wo.heap.size wo w55 := bwT
   have hfin : Below w.heap.size w w55 := hbw.trans ((hbr.trans (hfo.mono hwr)).mono hbw.size)
   have r0 := hr.c0; have r1 := hr.c1; have r2 := hr.c2; have rf0 := hr.f 0; have rf1 := hr.f 1; have rf2 := hr.f 2
   go_wp2_with fail
   first | (refine hK _ _ ⟨rfl, ?_⟩; clear hK K) | refine ⟨rfl, ?_⟩
   go_wp2_with fail
   refine bodyPost_ret (v := .agg #[.slice g1 X.length q1, .slice g2 Y.length q2, .slice g3 Z.length q3]) (by simp [results, Tryz.results48, go_sem, r0, r1, r2]) rfl ?_
   exact tre_fin (by omega) (by omega) h1_ h2_ h3_ hfin
end
end Go.Proofs.YteaaepbnoiecoaaGreat
