import Derived.Test.YteaaepbnoiecoaaGreatJbe
namespace Go.Proofs.YteaaepbnoiecoaaGreat
open Go.RowKit
section
variable {p : Int} {s x y z : Value} {st xs ys zs : List Int} {w : World}
set_option maxHeartbeats 4000000 in
theorem stimes14_c {a b : Value} {A B : List (List Int)} {m : Nat} (hp : 1 <= p) (hp2 : p <= 13) (hm1 : 1 <= m) (hm8 : m <= 8) (hA : Re w a A) (hB : Re w b B) (mA : matB p m A = true) (mB : matB p m B = true) :
  Calls Tryz.prog 123 #[.int .i64 p, a, b] w fun e w' => ∃ v, e = .returned v /\ ReG w' w.heap.size v (mulC p m A B) /\ Below w.heap.size w w' := by
 obtain ⟨hAl, hAw⟩ := matB_iff.1 mA
 obtain ⟨hBl, hBw⟩ := matB_iff.1 mB
 obtain ⟨a1, c1, rfl, _⟩ := id hA
 obtain ⟨a2, c2, rfl, _⟩ := id hB
 subst hBl
 obtain ⟨F, hF⟩ : ∃ F : Nat -> List Int, F = fun k => applyL p A (colL B k) := ⟨_, rfl⟩
 have hv : ∀ k, applyL p A (colL B k) = F k := fun k => by rw [hF]
 have hev : ∀ k, Ev p B.length (F k) := fun k => by rw [<- hv]; exact applyL_ev hp mA _
 have hun : mulC p B.length A B = trL ((List.range B.length).map F) B.length := by rw [hF]; rfl
 have hcol := fun (W : World) v (h : Re W v ((List.range B.length).map F)) => scolsF_c (w := W) (L := (List.range B.length).map F) h (fun r hr => by obtain ⟨i, _, rfl⟩ := List.mem_map.1 hr; rw [(hev i).1]; simp) (by simp; omega) (by simp; omega)
 rw [cols_len, <- hun] at hcol
 have kc := fun W k (hk : k < B.length) (h : Re W (.slice a2 B.length c2) B) => scolumn_c (w := W) (i := k) h (fun r hr => by rw [(hBw r hr).1]; exact hk) (by omega)
 have ka := fun W v k (h : Re W (.slice a1 A.length c1) A) (hv : El W v (colL B k)) => sapply_c (w := W) (p := p) (n := B.length) hp (by omega) h hAw hv (colL_ev hp mB k) hm1 (by omega) (by omega)
 simp only [hv] at ka
 have HEV := Lib.hid hev; clear hev hun hF hv hAw hBw
 clear hAl
 have hl0 := LsR.new (w := w) (B := w.heap.size) (Nat.le_refl _)
 have hb0 : Below w.heap.size w (w.alloc (.cells #[] 24)) := bwT
 go_enter Tryz.func123, Tryz.ntmps123
 go_wp2_with fail
 go_loopw [7, 8] (fun o q wr => ∃ (k : Nat) (us : List Value), k <= B.length /\ q = .int .i64 k /\ LsR wr w.heap.size o us ((List.range k).map F) /\ Below w.heap.size w wr) (fun _ q _ => B.length - (intOf q).toNat)
 case atStart => exact ⟨0, [], Nat.zero_le _, rfl, hl0, hb0⟩
 case round =>
  clear hl0 hb0
  obtain ⟨k, us, hk, rfl, hl, hbr⟩ := hrel
  obtain ⟨al, cl, rfl⟩ := hl.form
  have hul := hl.len; rw [cols_len] at hul
  have HUL := Lib.hid hul; clear hul
  by_cases hlt : k < B.length
  ·have hlti : (k : Int) < B.length := by omega
   obtain ⟨J, hJ⟩ : ∃ J, J = F k := ⟨_, rfl⟩
   have hnext : (List.range (k + 1)).map F = (List.range k).map F ++ [J] := by rw [hJ]; exact cols_succ
   obtain ⟨I, hI⟩ : ∃ I, I = (List.range k).map F := ⟨_, rfl⟩
   rw [<- hI] at hl hnext
   have HN := Lib.hid hnext; have HJ := Lib.hid hJ.symm
   clear hJ hI hnext
   have hA := hA.below hbr; have hB := hB.below hbr
   have hwr := hbr.size
   generalize wr = wo at *
   go_wp2_with fail
   refine (kc _ k hlt hB).mono ?_; rintro e w21 ⟨v1, rfl, h1, hb21⟩
   have hA := hA.below hb21; have hB := hB.below hb21; have hl := hl.below hb21
   obtain ⟨g1, k1, rfl, _⟩ := id h1.el.op
   have hlp := hl
   go_wp2_with fail
   refine (ka _ _ k hA h1.el).mono ?_; rintro e w22 ⟨v4, rfl, hv4, hb22⟩
   have hA := hA.below hb22; have hB := hB.below hb22; have hl := hl.below hb22; have h1 := h1.below hb22
   rw [HJ.out] at hv4
   obtain ⟨a4, c4, rfl, _⟩ := id hv4.el.op
   have hzn := hlp.fresh hv4.elr
   have hb6 : Below wo.heap.size wo w21 := bwT
   have hbB : Below wo.heap.size wo w22 := bwT
   have hnx := hbr.trans (hbB.mono hwr)
   have hcs : w.heap.size <= w22.heap.size := Nat.le_trans hwr hbB.size
   have hz4 : ElR w22 w.heap.size _ J := hv4.elr.more (Nat.le_trans hwr hb6.size)
   go_wp2_with (at_builtin; refine appr_one rfl _ _ rfl w22 w.heap.size _ rfl (.slice al us.length cl) us rfl (.slice a4 J.length c4) 1 rfl rfl hl.own hcs (by have := HUL.out; omega) ?_; intro g' cap' w8 hown' hgb' hg' hge)
   have hl8 := hl.snoc hz4 hzn (nv := .slice (some ⟨g', 0, none⟩) (us.length + 1) cap') rfl hown' hgb' hg' hge
   go_roundw
   case rel => exact ⟨k + 1, _, by omega, by go_num, by rw [HN.out]; exact hl8, hnx.trans hgb'⟩
   case measure => simp [intOf]; omega
  ·obtain rfl : k = B.length := by omega
   have hlf : ¬ ((B.length : Nat) : Int) < B.length := by omega
   go_wp2_with fail
   refine (hcol _ _ hl.rer.re).mono ?_; rintro e w60 ⟨v, rfl, hv, hb60⟩
   go_wp2_with fail
   go_ret
   exact ⟨_, rfl, hv.more hbr.size, hbr.trans (hb60.mono hbr.size)⟩
set_option maxHeartbeats 4000000 in
theorem stimes15_c {a b c a' b' c' : Value} {A B C A' B' C' : List (List Int)} {m : Nat} (hp : 1 <= p) (hp2 : p <= 13) (hm1 : 1 <= m) (hm8 : m <= 8) (hA : Re w a A) (hB : Re w b B) (hC : Re w c C) (hA' : Re w a' A') (hB' : Re w b' B') (hC' : Re w c' C')
  (mA : matB p m A = true) (mB : matB p m B = true) (mC : matB p m C = true) (mA' : matB p m A' = true) (mB' : matB p m B' = true) (mC' : matB p m C' = true) :
  Calls Tryz.prog 113 #[.int .i64 p, .agg #[a, b, c], .agg #[a', b', c']] w fun e w' => TrE w (mulC p m A A') (mulC p m B B') (mulC p m C C') e w' := by
 obtain ⟨a1, c1, rfl, _⟩ := id hA; obtain ⟨a2, c2, rfl, _⟩ := id hB; obtain ⟨a3, c3, rfl, _⟩ := id hC
 obtain ⟨a4, c4, rfl, _⟩ := id hA'; obtain ⟨a5, c5, rfl, _⟩ := id hB'; obtain ⟨a6, c6, rfl, _⟩ := id hC'
 have kA := fun W (h : Re W (.slice a1 A.length c1) A) (h' : Re W (.slice a4 A'.length c4) A') => stimes14_c (w := W) hp hp2 hm1 hm8 h h' mA mA'
 have kB := fun W (h : Re W (.slice a2 B.length c2) B) (h' : Re W (.slice a5 B'.length c5) B') => stimes14_c (w := W) hp hp2 hm1 hm8 h h' mB mB'
 have kC := fun W (h : Re W (.slice a3 C.length c3) C) (h' : Re W (.slice a6 C'.length c6) C') => stimes14_c (w := W) hp hp2 hm1 hm8 h h' mC mC'
 obtain ⟨X, hX⟩ : ∃ X, X = mulC p m A A' := ⟨_, rfl⟩; obtain ⟨Y, hY⟩ : ∃ Y, Y = mulC p m B B' := ⟨_, rfl⟩; obtain ⟨Z, hZ⟩ : ∃ Z, Z = mulC p m C C' := ⟨_, rfl⟩
 simp only [<- hX, <- hY, <- hZ] at kA kB kC ⊢
 clear hX hY hZ mA mB mC mA' mB' mC'
 go_enter Tryz.func113, Tryz.ntmps113
 have hb0 : Below w.heap.size w (((w.alloc (.cells #[.slice a1 A.length c1, .slice a2 B.length c2, .slice a3 C.length c3] 29)).alloc (.cells #[.slice a4 A'.length c4, .slice a5 B'.length c5, .slice a6 C'.length c6] 29)).alloc (.cells #[.slice none 0 0, .slice none 0 0, .slice none 0 0] 29)) := bwT
 have hA := hA.below hb0; have hB := hB.below hb0; have hC := hC.below hb0; have hA' := hA'.below hb0; have hB' := hB'.below hb0; have hC' := hC'.below hb0
 have e0 : (((w.alloc (.cells #[.slice a1 A.length c1, .slice a2 B.length c2, .slice a3 C.length c3] 29)).alloc (.cells #[.slice a4 A'.length c4, .slice a5 B'.length c5, .slice a6 C'.length c6] 29)).alloc (.cells #[.slice none 0 0, .slice none 0 0, .slice none 0 0] 29)).cell? ⟨w.heap.size, 0, none⟩ = some (.slice a1 A.length c1) := by simp [go_sem]
 have e1 : (((w.alloc (.cells #[.slice a1 A.length c1, .slice a2 B.length c2, .slice a3 C.length c3] 29)).alloc (.cells #[.slice a4 A'.length c4, .slice a5 B'.length c5, .slice a6 C'.length c6] 29)).alloc (.cells #[.slice none 0 0, .slice none 0 0, .slice none 0 0] 29)).cell? ⟨w.heap.size, 1, none⟩ = some (.slice a2 B.length c2) := by simp [go_sem]
 have e2 : (((w.alloc (.cells #[.slice a1 A.length c1, .slice a2 B.length c2, .slice a3 C.length c3] 29)).alloc (.cells #[.slice a4 A'.length c4, .slice a5 B'.length c5, .slice a6 C'.length c6] 29)).alloc (.cells #[.slice none 0 0, .slice none 0 0, .slice none 0 0] 29)).cell? ⟨w.heap.size, 2, none⟩ = some (.slice a3 C.length c3) := by simp [go_sem]
 have f0 : (((w.alloc (.cells #[.slice a1 A.length c1, .slice a2 B.length c2, .slice a3 C.length c3] 29)).alloc (.cells #[.slice a4 A'.length c4, .slice a5 B'.length c5, .slice a6 C'.length c6] 29)).alloc (.cells #[.slice none 0 0, .slice none 0 0, .slice none 0 0] 29)).cell? ⟨w.heap.size + 1, 0, none⟩ = some (.slice a4 A'.length c4) := by simp [go_sem]
 have f1 : (((w.alloc (.cells #[.slice a1 A.length c1, .slice a2 B.length c2, .slice a3 C.length c3] 29)).alloc (.cells #[.slice a4 A'.length c4, .slice a5 B'.length c5, .slice a6 C'.length c6] 29)).alloc (.cells #[.slice none 0 0, .slice none 0 0, .slice none 0 0] 29)).cell? ⟨w.heap.size + 1, 1, none⟩ = some (.slice a5 B'.length c5) := by simp [go_sem]
 have f2 : (((w.alloc (.cells #[.slice a1 A.length c1, .slice a2 B.length c2, .slice a3 C.length c3] 29)).alloc (.cells #[.slice a4 A'.length c4, .slice a5 B'.length c5, .slice a6 C'.length c6] 29)).alloc (.cells #[.slice none 0 0, .slice none 0 0, .slice none 0 0] 29)).cell? ⟨w.heap.size + 1, 2, none⟩ = some (.slice a6 C'.length c6) := by simp [go_sem]
 have r0 : (((w.alloc (.cells #[.slice a1 A.length c1, .slice a2 B.length c2, .slice a3 C.length c3] 29)).alloc (.cells #[.slice a4 A'.length c4, .slice a5 B'.length c5, .slice a6 C'.length c6] 29)).alloc (.cells #[.slice none 0 0, .slice none 0 0, .slice none 0 0] 29)).cell? ⟨w.heap.size + 1 + 1, 0, none⟩ = some (.slice none 0 0) := by simp [go_sem]
 have r1 : (((w.alloc (.cells #[.slice a1 A.length c1, .slice a2 B.length c2, .slice a3 C.length c3] 29)).alloc (.cells #[.slice a4 A'.length c4, .slice a5 B'.length c5, .slice a6 C'.length c6] 29)).alloc (.cells #[.slice none 0 0, .slice none 0 0, .slice none 0 0] 29)).cell? ⟨w.heap.size + 1 + 1, 1, none⟩ = some (.slice none 0 0) := by simp [go_sem]
 have r2 : (((w.alloc (.cells #[.slice a1 A.length c1, .slice a2 B.length c2, .slice a3 C.length c3] 29)).alloc (.cells #[.slice a4 A'.length c4, .slice a5 B'.length c5, .slice a6 C'.length c6] 29)).alloc (.cells #[.slice none 0 0, .slice none 0 0, .slice none 0 0] 29)).cell? ⟨w.heap.size + 1 + 1, 2, none⟩ = some (.slice none 0 0) := by simp [go_sem]
 have hr : Bt (((w.alloc (.cells #[.slice a1 A.length c1, .slice a2 B.length c2, .slice a3 C.length c3] 29)).alloc (.cells #[.slice a4 A'.length c4, .slice a5 B'.length c5, .slice a6 C'.length c6] 29)).alloc (.cells #[.slice none 0 0, .slice none 0 0, .slice none 0 0] 29)) (w.heap.size + 1 + 1) (.slice none 0 0) (.slice none 0 0) (.slice none 0 0) := by
  have h := heap_alloc_new ((w.alloc (.cells #[.slice a1 A.length c1, .slice a2 B.length c2, .slice a3 C.length c3] 29)).alloc (.cells #[.slice a4 A'.length c4, .slice a5 B'.length c5, .slice a6 C'.length c6] 29)) (.cells #[.slice none 0 0, .slice none 0 0, .slice none 0 0] 29)
  rw [show ((w.alloc (.cells #[.slice a1 A.length c1, .slice a2 B.length c2, .slice a3 C.length c3] 29)).alloc (.cells #[.slice a4 A'.length c4, .slice a5 B'.length c5, .slice a6 C'.length c6] 29)).heap.size = w.heap.size + 1 + 1 by simp] at h
  exact h
 clear r0 r1 r2
 go_wp2_with fail
 refine region_flow [(false, [(0, 0), (1, 0), (2, 1), (3, 0), (4, 1), (6, 0), (7, 0), (8, 1), (9, 0), (10, 1), (12, 0), (13, 0), (14, 1), (15, 0), (16, 1), (5, 5)]), (false, [(11, 5)]), (false, [(17, 4), (18, 0), (19, 4)])] (by kernel_rfl) ?_
 refine norm_K fun K hK => ?_
 change wpList _ _ _ [_, _, _, _, _, _, _, _, _, _, _, _, _, _, _, _] _ _
 have hb1 : Below (((w.alloc (.cells #[.slice a1 A.length c1, .slice a2 B.length c2, .slice a3 C.length c3] 29)).alloc (.cells #[.slice a4 A'.length c4, .slice a5 B'.length c5, .slice a6 C'.length c6] 29)).alloc (.cells #[.slice none 0 0, .slice none 0 0, .slice none 0 0] 29)).heap.size (((w.alloc (.cells #[.slice a1 A.length c1, .slice a2 B.length c2, .slice a3 C.length c3] 29)).alloc (.cells #[.slice a4 A'.length c4, .slice a5 B'.length c5, .slice a6 C'.length c6] 29)).alloc (.cells #[.slice none 0 0, .slice none 0 0, .slice none 0 0] 29)) (((w.alloc (.cells #[.slice a1 A.length c1, .slice a2 B.length c2, .slice a3 C.length c3] 29)).alloc (.cells #[.slice a4 A'.length c4, .slice a5 B'.length c5, .slice a6 C'.length c6] 29)).alloc (.cells #[.slice none 0 0, .slice none 0 0, .slice none 0 0] 29)).drew := bwT
 have hA := hA.below hb1; have hB := hB.below hb1; have hC := hC.below hb1; have hA' := hA'.below hb1; have hB' := hB'.below hb1; have hC' := hC'.below hb1; have e0 := kept hb1 e0; have e1 := kept hb1 e1; have e2 := kept hb1 e2; have f0 := kept hb1 f0; have f1 := kept hb1 f1; have f2 := kept hb1 f2; have hr := hr.below hb1
 generalize (((w.alloc (.cells #[.slice a1 A.length c1, .slice a2 B.length c2, .slice a3 C.length c3] 29)).alloc (.cells #[.slice a4 A'.length c4, .slice a5 B'.length c5, .slice a6 C'.length c6] 29)).alloc (.cells #[.slice none 0 0, .slice none 0 0, .slice none 0 0] 29)).drew = wq at *
 have hzq : w.heap.size + 1 + 1 + 1 <= wq.heap.size := by have := hb1.size; simpa using this
 go_wp2_with fail
 refine (kA _ hA hA').mono ?_; rintro e w2 ⟨v1, rfl, h1, hb2⟩
 have hA := hA.below hb2; have hB := hB.below hb2; have hC := hC.below hb2; have hA' := hA'.below hb2; have hB' := hB'.below hb2; have hC' := hC'.below hb2; have e0 := kept hb2 e0; have e1 := kept hb2 e1; have e2 := kept hb2 e2; have f0 := kept hb2 f0; have f1 := kept hb2 f1; have f2 := kept hb2 f2; have hr := hr.below hb2
 go_wp2_with fail
 have hz0 : Below wq.heap.size wq w2 := bwT
 first | (refine hK _ _ ⟨hz0, ?_⟩; clear hK K) | refine ⟨hz0, ?_⟩
 clear hz0
 refine norm_K fun K hK => ?_
 change wpList _ _ _ [_] _ _
 obtain ⟨g1, k1, rfl⟩ := h1.shape
 have h1 := h1.more hzq
 go_wp2_with fail
 refine (kB _ hB hB').mono ?_; rintro e w3 ⟨v2, rfl, h2, hb3⟩
 have hA := hA.below hb3; have hB := hB.below hb3; have hC := hC.below hb3; have hA' := hA'.below hb3; have hB' := hB'.below hb3; have hC' := hC'.below hb3; have e0 := kept hb3 e0; have e1 := kept hb3 e1; have e2 := kept hb3 e2; have f0 := kept hb3 f0; have f1 := kept hb3 f1; have f2 := kept hb3 f2; have hr := hr.below hb3; have h1 := h1.below hb3
 go_wp2_with fail
 have hz1 : Below wq.heap.size wq w3 := bwT
 first | (refine hK _ _ ⟨hz1, ?_⟩; clear hK K) | refine ⟨hz1, ?_⟩
 clear hz1
 refine norm_K fun K hK => ?_
 change wpList _ _ _ [_, _, _] _ _
 obtain ⟨g2, k2, rfl⟩ := h2.shape
 have h2 := h2.more (Nat.le_trans hzq hb2.size)
 go_wp2_with fail
 refine (kC _ hC hC').mono ?_; rintro e w4 ⟨v3, rfl, h3, hb4⟩
 have hA := hA.below hb4; have hB := hB.below hb4; have hC := hC.below hb4; have hA' := hA'.below hb4; have hB' := hB'.below hb4; have hC' := hC'.below hb4; have e0 := kept hb4 e0; have e1 := kept hb4 e1; have e2 := kept hb4 e2; have f0 := kept hb4 f0; have f1 := kept hb4 f1; have f2 := kept hb4 f2; have hr := hr.below hb4; have h1 := h1.below hb4; have h2 := h2.below hb4
 obtain ⟨g3, k3, rfl⟩ := h3.shape
 have h3 := h3.more (Nat.le_trans hzq (Nat.le_trans hb2.size hb3.size))
 have hfin : Below w.heap.size w w4 := bwT
 have r0 := hr.c0; have r1 := hr.c1; have r2 := hr.c2; have rf0 := hr.f 0; have rf1 := hr.f 1; have rf2 := hr.f 2
 go_wp2_with fail
 first | (refine hK _ _ ⟨rfl, ?_⟩; clear hK K) | refine ⟨rfl, ?_⟩
 go_wp2_with fail
 refine bodyPost_ret (v := .agg #[.slice g1 X.length k1, .slice g2 Y.length k2, .slice g3 Z.length k3]) (by simp [results, Tryz.results113, go_sem, r0, r1, r2]) rfl ?_
 exact tre_fin (by omega) (by omega) h1 h2 h3 hfin
def pureC (p : Int) (st xs : List Int) : List (List Int) := sumR p (sumR p (unA p st xs) 1 (unB p st xs)) (p - 2) (sumR p (unA p st xs) 1 (unB p st xs))
theorem pureC_mat (hd : Dok p st) (ex : Ev p (sz st.length) xs) : matB p (sz st.length) (pureC p st xs) = true := by
 have h1 : 1 <= p := by have := hd.hp.lo; omega
 obtain ⟨m1, m2, _⟩ := un_mat hd ex
 exact sumR_mat h1 (sumR_mat h1 m1 m2) (sumR_mat h1 m1 m2)
set_option maxHeartbeats 4000000 in
theorem spure_c (hd : Dok p st) (hs : El w s st) (hx : El w x xs) (ex : Ev p (sz st.length) xs) :
  Calls Tryz.prog 110 #[.agg #[.int .i64 p, s], x] w fun e w' => TrE w (unA p st xs) (unB p st xs) (pureC p st xs) e w' := by
 have hp1 : 2 <= p := by have := hd.hp.lo; omega
 have h13 := hd.hp.hi; have hsz := sz_le hd; have hl3 := hd.hl
 obtain ⟨m1, m2, _⟩ := un_mat hd ex
 have m3 := sumR_mat (k := 1) (show 1 <= p by omega) m1 m2
 have kS : ∀ {X Y : List (List Int)} {k : Int} {a b : Value} {W : World}, 0 <= k -> k <= 13 -> matB p (sz st.length) X = true -> matB p (sz st.length) Y = true -> Re W a X -> Re W b Y -> Calls Tryz.prog 121 #[.int .i64 p, a, .int .i64 k, b] W fun e w' => ∃ v, e = .returned v /\ ReG w' W.heap.size v (sumR p X k Y) /\ Below W.heap.size W w' := fun h0 h1 mX mY hX hY => by
  obtain ⟨x1, x2⟩ := matB_iff.1 mX
  obtain ⟨y1, y2⟩ := matB_iff.1 mY
  refine (sl15_c (by omega) (by omega) (by omega) (by omega) hX hY x2 y2 (by omega) (by omega) (by omega)).mono ?_
  rintro e w2 ⟨v, us, rfl, ho, hr, hf, hb⟩
  exact ⟨v, rfl, ReG.of ho hr (hf (by omega)), hb⟩
 have k1 := fun W a b (h : Re W a (unA p st xs)) (h' : Re W b (unB p st xs)) => kS (k := 1) (W := W) (a := a) (b := b) (by omega) (by omega) m1 m2 h h'
 have k2 := fun W a (h : Re W a (sumR p (unA p st xs) 1 (unB p st xs))) => kS (k := p - 2) (W := W) (a := a) (b := a) (by omega) (by omega) m3 m3 h h
 have kl := fun W (h : El W s st) (h' : El W x xs) => sleft_c (w := W) hd h h' ex
 have kr := fun W (h : El W s st) (h' : El W x xs) => sright_c (w := W) hd h h' ex
 have hpc : pureC p st xs = sumR p (sumR p (unA p st xs) 1 (unB p st xs)) (p - 2) (sumR p (unA p st xs) 1 (unB p st xs)) := rfl
 obtain ⟨P, hP⟩ : ∃ P, P = pureC p st xs := ⟨_, rfl⟩
 rw [<- hP] at hpc ⊢
 simp only [<- hpc] at k2
 obtain ⟨S, hS⟩ : ∃ S, S = sumR p (unA p st xs) 1 (unB p st xs) := ⟨_, rfl⟩
 simp only [<- hS] at k1 k2
 obtain ⟨X, hX⟩ : ∃ X, X = unA p st xs := ⟨_, rfl⟩; obtain ⟨Y, hY⟩ : ∃ Y, Y = unB p st xs := ⟨_, rfl⟩
 simp only [<- hX, <- hY] at k1 kl kr ⊢
 clear hX hY hS hP hpc m1 m2 m3 kS ex
 obtain ⟨a, c, rfl, _⟩ := id hs.op
 obtain ⟨a1, c1, rfl, _⟩ := id hx.op
 go_enter Tryz.func110, Tryz.ntmps110
 have hb0 : Below w.heap.size w ((w.alloc (.cells #[.int .i64 p, .slice a st.length c] 26)).alloc (.cells #[.slice none 0 0, .slice none 0 0, .slice none 0 0] 29)) := bwT
 have hs := hs.below hb0; have hx := hx.below hb0
 have d0 : ((w.alloc (.cells #[.int .i64 p, .slice a st.length c] 26)).alloc (.cells #[.slice none 0 0, .slice none 0 0, .slice none 0 0] 29)).cell? ⟨w.heap.size, 0, none⟩ = some (.int .i64 p) := by simp [go_sem]
 have d1 : ((w.alloc (.cells #[.int .i64 p, .slice a st.length c] 26)).alloc (.cells #[.slice none 0 0, .slice none 0 0, .slice none 0 0] 29)).cell? ⟨w.heap.size, 1, none⟩ = some (.slice a st.length c) := by simp [go_sem]
 have r0 : ((w.alloc (.cells #[.int .i64 p, .slice a st.length c] 26)).alloc (.cells #[.slice none 0 0, .slice none 0 0, .slice none 0 0] 29)).cell? ⟨w.heap.size + 1, 0, none⟩ = some (.slice none 0 0) := by simp [go_sem]
 have r1 : ((w.alloc (.cells #[.int .i64 p, .slice a st.length c] 26)).alloc (.cells #[.slice none 0 0, .slice none 0 0, .slice none 0 0] 29)).cell? ⟨w.heap.size + 1, 1, none⟩ = some (.slice none 0 0) := by simp [go_sem]
 have r2 : ((w.alloc (.cells #[.int .i64 p, .slice a st.length c] 26)).alloc (.cells #[.slice none 0 0, .slice none 0 0, .slice none 0 0] 29)).cell? ⟨w.heap.size + 1, 2, none⟩ = some (.slice none 0 0) := by simp [go_sem]
 have hr : Bt ((w.alloc (.cells #[.int .i64 p, .slice a st.length c] 26)).alloc (.cells #[.slice none 0 0, .slice none 0 0, .slice none 0 0] 29)) (w.heap.size + 1) (.slice none 0 0) (.slice none 0 0) (.slice none 0 0) := by
  have h := heap_alloc_new (w.alloc (.cells #[.int .i64 p, .slice a st.length c] 26)) (.cells #[.slice none 0 0, .slice none 0 0, .slice none 0 0] 29)
  rw [show (w.alloc (.cells #[.int .i64 p, .slice a st.length c] 26)).heap.size = w.heap.size + 1 by simp] at h
  exact h
 clear r0 r1 r2
 go_wp2_with fail
 refine region_flow [(false, [(0, 1), (1, 0), (3, 1), (4, 0), (2, 5)]), (false, [(5, 4), (6, 0), (7, 0)])] (by kernel_rfl) ?_
 refine norm_K fun K hK => ?_
 change wpList _ _ _ [_, _, _, _, _] _ _
 have hb1 : Below ((w.alloc (.cells #[.int .i64 p, .slice a st.length c] 26)).alloc (.cells #[.slice none 0 0, .slice none 0 0, .slice none 0 0] 29)).heap.size ((w.alloc (.cells #[.int .i64 p, .slice a st.length c] 26)).alloc (.cells #[.slice none 0 0, .slice none 0 0, .slice none 0 0] 29)) ((w.alloc (.cells #[.int .i64 p, .slice a st.length c] 26)).alloc (.cells #[.slice none 0 0, .slice none 0 0, .slice none 0 0] 29)).drew := bwT
 have hs := hs.below hb1; have hx := hx.below hb1; have d0 := kept hb1 d0; have d1 := kept hb1 d1; have hr := hr.below hb1
 generalize ((w.alloc (.cells #[.int .i64 p, .slice a st.length c] 26)).alloc (.cells #[.slice none 0 0, .slice none 0 0, .slice none 0 0] 29)).drew = wq at *
 have hzq : w.heap.size + 1 + 1 <= wq.heap.size := by have := hb1.size; simpa using this
 go_wp2_with fail
 refine (kl _ hs hx).mono ?_; rintro e w2 ⟨v1, rfl, h1, hb2⟩
 have hs := hs.below hb2; have hx := hx.below hb2; have d0 := kept hb2 d0; have d1 := kept hb2 d1; have hr := hr.below hb2
 go_wp2_with fail
 have hz0 : Below wq.heap.size wq w2 := bwT
 first | (refine hK _ _ ⟨hz0, ?_⟩; clear hK K) | refine ⟨hz0, ?_⟩
 clear hz0
 refine norm_K fun K hK => ?_
 change wpList _ _ _ [_, _, _] _ _
 obtain ⟨g1, q1, rfl⟩ := h1.shape
 have h1 := h1.more hzq
 go_wp2_with fail
 refine (kr _ hs hx).mono ?_; rintro e w3 ⟨v2, rfl, h2, hb3⟩
 have hs := hs.below hb3; have hx := hx.below hb3; have d0 := kept hb3 d0; have d1 := kept hb3 d1; have hr := hr.below hb3; have h1 := h1.below hb3
 obtain ⟨g2, q2, rfl⟩ := h2.shape
 have h2 := h2.more (Nat.le_trans hzq hb2.size)
 go_wp2_with fail
 first | (refine hK _ _ ⟨rfl, ?_⟩; clear hK K) | refine ⟨rfl, ?_⟩
 go_wp2_with fail
 refine (k1 _ _ _ h1.re h2.re).mono ?_; rintro e w4 ⟨v3, rfl, h3, hb4⟩
 have hs := hs.below hb4; have hx := hx.below hb4; have d0 := kept hb4 d0; have d1 := kept hb4 d1; have hr := hr.below hb4; have h1 := h1.below hb4; have h2 := h2.below hb4
 obtain ⟨g3, q3, rfl⟩ := h3.shape
 have hw3 : wq.heap.size <= w3.heap.size := Nat.le_trans hb2.size hb3.size
 have h3 := h3.more (Nat.le_trans hzq hw3)
 go_wp2_with fail
 refine (k2 _ _ h3.re).mono ?_; rintro e w5 ⟨v4, rfl, h4, hb5⟩
 have hs := hs.below hb5; have hx := hx.below hb5; have d0 := kept hb5 d0; have d1 := kept hb5 d1; have hr := hr.below hb5; have h1 := h1.below hb5; have h2 := h2.below hb5; have h3 := h3.below hb5
 obtain ⟨g4, q4, rfl⟩ := h4.shape
 have h4 := h4.more (Nat.le_trans hzq (Nat.le_trans hw3 hb4.size))
 have hfin : Below w.heap.size w w5 := bwT
 have r0 := hr.c0; have r1 := hr.c1; have r2 := hr.c2; have rf0 := hr.f 0; have rf1 := hr.f 1; have rf2 := hr.f 2
 go_wp2_with fail
 refine bodyPost_ret (v := .agg #[.slice g1 X.length q1, .slice g2 Y.length q2, .slice g4 P.length q4]) (by simp [results, Tryz.results110, go_sem, r0, r1, r2]) rfl ?_
 exact tre_fin (by omega) (by omega) h1 h2 h4 hfin
end
end Go.Proofs.YteaaepbnoiecoaaGreat
