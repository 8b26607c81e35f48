import Derived.Test.YteaaepbnoiecoaaGreatJbq
namespace Go.Proofs.YteaaepbnoiecoaaGreat
open Go.RowKit
theorem chkT_zero {p : Int} {st : List Int} {A B C : List (List Int)} (hd : Dok p st) (mA : matB p (sz st.length) A = true) (mB : matB p (sz st.length) B = true) (mC : matB p (sz st.length) C = true) : chkT p st [A, B, C] = 0 := by
 have h3 : chk3 p st [] = 0 := by
  unfold chk3
  rw [if_pos hd.is, if_neg (by have := hd.hl; omega)]; rfl
 unfold chkT
 rw [if_pos h3, if_pos (by simp [mA, mB, mC])]
section
variable {p : Int} {s x y z : Value} {st xs ys zs : List Int} {w : World}
set_option maxHeartbeats 2000000 in
theorem tchk2_c {b1 b2 b3 b4 b5 b6 : Value} {bl k : Nat} {A B C A' B' C' : List (List Int)} (hd : Dok p st) (hx : El w x st) (h0 : w.cell? ⟨bl, 0, none⟩ = some b1) (h1 : w.cell? ⟨bl, 1, none⟩ = some b2) (h2 : w.cell? ⟨bl, 2, none⟩ = some b3)
  (h3 : w.cell? ⟨bl, 3, none⟩ = some b4) (h4 : w.cell? ⟨bl, 4, none⟩ = some b5) (h5 : w.cell? ⟨bl, 5, none⟩ = some b6) (hA : Re w b1 A) (hB : Re w b2 B) (hC : Re w b3 C) (hA' : Re w b4 A') (hB' : Re w b5 B') (hC' : Re w b6 C')
  (mA : matB p (sz st.length) A = true) (mB : matB p (sz st.length) B = true) (mC : matB p (sz st.length) C = true) (mA' : matB p (sz st.length) A' = true) (mB' : matB p (sz st.length) B' = true) (mC' : matB p (sz st.length) C' = true) :
  Calls Tryz.prog 18 #[.agg #[.int .i64 p, x], .slice (some ⟨bl, 0, none⟩) 2 k] w fun e w' => e = .returned (.int .i64 0) /\ Below w.heap.size w w' := by
 obtain ⟨a0, c0, rfl, _⟩ := id hx.op
 obtain ⟨a1, c1, rfl, _⟩ := id hA; obtain ⟨a2, c2, rfl, _⟩ := id hB; obtain ⟨a3, c3, rfl, _⟩ := id hC
 obtain ⟨a4, c4, rfl, _⟩ := id hA'; obtain ⟨a5, c5, rfl, _⟩ := id hB'; obtain ⟨a6, c6, rfl, _⟩ := id hC'
 have hcon := fun W l h1 h2 => chkokm_c (w := W) (p := p) (x := .slice a0 st.length c0) (m := l) (Ms := [A, B, C, A', B', C']) hd h1 h2 (by simp) (fun M hM => by simp at hM; rcases hM with rfl | rfl | rfl | rfl | rfl | rfl <;> assumption)
 clear mA mB mC mA' mB' mC'
 have h0_ := h0; have h1_ := h1; have h2_ := h2; have h3_ := h3; have h4_ := h4; have h5_ := h5
 have hxo := hx; have hAo := hA; have hBo := hB; have hCo := hC; have hAo' := hA'; have hBo' := hB'; have hCo' := hC'
 go_enter Tryz.func18, Tryz.ntmps18
 have hb0 : Below w.heap.size w (w.alloc (.cells #[.int .i64 p, .slice a0 st.length c0] 26)) := bwT
 have h0 := kept hb0 h0; have h1 := kept hb0 h1; have h2 := kept hb0 h2; have h3 := kept hb0 h3; have h4 := kept hb0 h4; have h5 := kept hb0 h5
 have d0 : (w.alloc (.cells #[.int .i64 p, .slice a0 st.length c0] 26)).cell? ⟨w.heap.size, 0, none⟩ = some (.int .i64 p) := by simp [go_sem]
 have d1 : (w.alloc (.cells #[.int .i64 p, .slice a0 st.length c0] 26)).cell? ⟨w.heap.size, 1, none⟩ = some (.slice a0 st.length c0) := by simp [go_sem]
 have hO : OwM ((w.alloc (.cells #[.int .i64 p, .slice a0 st.length c0] 26)).alloc (.cells #[] 27)) w.heap.size (.slice (some ⟨w.heap.size + 1, 0, none⟩) 0 0) [] := by
  have h := OwM.new (w := w.alloc (.cells #[.int .i64 p, .slice a0 st.length c0] 26)) (B := w.heap.size) (by simp)
  simpa using h
 have hb1 : Below (w.alloc (.cells #[.int .i64 p, .slice a0 st.length c0] 26)).heap.size (w.alloc (.cells #[.int .i64 p, .slice a0 st.length c0] 26)) ((w.alloc (.cells #[.int .i64 p, .slice a0 st.length c0] 26)).alloc (.cells #[] 27)) := bwT
 have h0 := kept hb1 h0; have h1 := kept hb1 h1; have h2 := kept hb1 h2; have h3 := kept hb1 h3; have h4 := kept hb1 h4; have h5 := kept hb1 h5; have d0 := kept hb1 d0; have d1 := kept hb1 d1
 have hzz : ((w.alloc (.cells #[.int .i64 p, .slice a0 st.length c0] 26)).alloc (.cells #[] 27)).heap.size = w.heap.size + 1 + 1 := by simp
 have hbl : bl < w.heap.size := by
  have := World.block_lt_of_cell? w _ (show w.cell? ⟨bl, 0, none⟩ = _ from h0_); simpa using this
 go_wp2_with fail
 obtain ⟨u, hu⟩ : ∃ u, u = (w.alloc (.cells #[.int .i64 p, .slice a0 st.length c0] 26)).alloc (.cells #[] 27) := ⟨_, rfl⟩
 have hbu : Below w.heap.size w u := by rw [hu]; exact bwT
 rw [<- hu] at h0 h1 h2 h3 h4 h5 d0 d1 hO hzz ⊢
 have HZ := Lib.hid hzz
 clear hu hzz
 obtain ⟨W, hW⟩ : ∃ W, W = u.alloc (.cells #[.slice a1 A.length c1, .slice a2 B.length c2, .slice a3 C.length c3] 29) := ⟨_, rfl⟩
 have hbW : Below u.heap.size u W := by rw [hW]; exact bwT
 have hOW := hO.below hbW
 have d0W := kept hbW d0; have d1W := kept hbW d1
 have hB0 : w.heap.size <= W.heap.size := by have := hbu.size; have := hbW.size; omega
 have HW := Lib.hid hW
 refine wp_loop_rounds 3 ?_; rw [rounds_succ]
 go_wp2_with (at_builtin; rw [<- HW.out]; refine appm_three rfl _ _ rfl W w.heap.size (u.heap.size + 1) (by rw [HW.out]; simp) (.slice (some ⟨w.heap.size + 1, 0, none⟩) 0 0) [] rfl (.slice a1 A.length c1) (.slice a2 B.length c2) (.slice a3 C.length c3) 3 rfl rfl rfl rfl hOW hB0 (by simp) ?_; intro g' cap' w' ho' hb' hg')
 have d0 := farc hg' d0W (by intro e; have e2 : w.heap.size = w.heap.size + 1 := Option.some.inj e; omega)
 have d1 := farc hg' d1W (by intro e; have e2 : w.heap.size = w.heap.size + 1 := Option.some.inj e; omega)
 have hbz : Below w.heap.size w w' := ((show Below w.heap.size w W from bwC hbu hbW)).trans hb'
 have h0 := kept hbz h0_; have h1 := kept hbz h1_; have h2 := kept hbz h2_; have h3 := kept hbz h3_; have h4 := kept hbz h4_; have h5 := kept hbz h5_
 clear hO hOW d0W d1W hbu hbW hB0 HW hW
 obtain ⟨W2, hW2⟩ : ∃ W, W = w'.alloc (.cells #[.slice a4 A'.length c4, .slice a5 B'.length c5, .slice a6 C'.length c6] 29) := ⟨_, rfl⟩
 have hbW2 : Below w'.heap.size w' W2 := by rw [hW2]; exact bwT
 have hOW2 : OwM W2 w.heap.size (.slice (some ⟨g', 0, none⟩) 3 cap') [.slice a1 A.length c1, .slice a2 B.length c2, .slice a3 C.length c3] := OwM.below ho' hbW2
 have d0W := kept hbW2 d0; have d1W := kept hbW2 d1
 have hB2 : w.heap.size <= W2.heap.size := by have := hbz.size; have := hbW2.size; omega
 have HW2 := Lib.hid hW2
 have hgw : g' ≠ w.heap.size := by
  intro e
  have hh := World.ownsRow.cells ho' (g := g') rfl 0 _ rfl
  rw [addz, e, d0] at hh
  cases hh
 rw [rounds_succ]
 go_wp2_with (at_builtin; rw [<- HW2.out]; refine appm_three rfl _ _ rfl W2 w.heap.size (w'.heap.size + 1) (by rw [HW2.out]; simp) (.slice (some ⟨g', 0, none⟩) 3 cap') [.slice a1 A.length c1, .slice a2 B.length c2, .slice a3 C.length c3] rfl (.slice a4 A'.length c4) (.slice a5 B'.length c5) (.slice a6 C'.length c6) 3 rfl rfl rfl rfl hOW2 hB2 (by simp) ?_; intro g2 cap2 w2 ho2 hb2 hg2)
 have d0 := farc hg2 d0W (by intro e; have e2 : w.heap.size = g' := Option.some.inj e; omega)
 have d1 := farc hg2 d1W (by intro e; have e2 : w.heap.size = g' := Option.some.inj e; omega)
 have hbz2 : Below w.heap.size w w2 := (hbz.trans (hbW2.mono hbz.size)).trans hb2
 have hxz := hxo.below hbz2; have hAz := hAo.below hbz2; have hBz := hBo.below hbz2; have hCz := hCo.below hbz2; have hAz' := hAo'.below hbz2; have hBz' := hBo'.below hbz2; have hCz' := hCo'.below hbz2
 have hM : Ml w2 (.slice (some ⟨g2, 0, none⟩) 6 cap2) [A, B, C, A', B', C'] := by
  refine ⟨g2, cap2, rfl, fun j hj => ?_⟩
  have hc := World.ownsRow.cells ho2 (g := g2) rfl
  simp at hj
  rcases (show j = 0 \/ j = 1 \/ j = 2 \/ j = 3 \/ j = 4 \/ j = 5 by omega) with rfl | rfl | rfl | rfl | rfl | rfl
  ·have := hc 0 _ rfl; rw [addz] at this; exact ⟨_, this, hAz⟩
  ·have := hc 1 _ rfl; rw [addz] at this; exact ⟨_, this, hBz⟩
  ·have := hc 2 _ rfl; rw [addz] at this; exact ⟨_, this, hCz⟩
  ·have := hc 3 _ rfl; rw [addz] at this; exact ⟨_, this, hAz'⟩
  ·have := hc 4 _ rfl; rw [addz] at this; exact ⟨_, this, hBz'⟩
  ·have := hc 5 _ rfl; rw [addz] at this; exact ⟨_, this, hCz'⟩
 clear h0 h1 h2 h3 h4 h5 hOW2 d0W d1W hbW2 hbz
 rw [rounds_succ]
 go_wp2_with fail
 refine (hcon _ _ hxz hM).mono ?_; rintro e w9 ⟨rfl, hb9⟩
 go_wp2_with fail
 go_ret
 exact ⟨rfl, bwC hbz2 hb9⟩
theorem RowsF.reg {w : World} {B : Nat} {v : Value} {us : List Value} {xss : List (List Int)} (ho : OwV w B v us) (hr : RowsF w B us xss) (hf : ∃ g cap, v = .slice (some ⟨g, 0, none⟩) us.length cap) : ReG w B v xss := by
 obtain ⟨g, cap, rfl⟩ := hf
 have hul := hr.1
 by_cases h0 : 0 < us.length
 ·obtain ⟨g2, cap2, e, h1, h2, h3, _, h4⟩ := ho.cellsR h0
  cases e
  have hx1 : xss.length <= cap := by omega
  exact ⟨_, cap, by rw [hul], hx1, h2, .inr ⟨g, 0, rfl, h3, fun j hj => ⟨us[j]'(by omega), by rw [Nat.zero_add]; exact h4 j (by omega), (hr.2 j (by omega) hj).elf⟩⟩⟩
 ·have hx : xss = [] := List.eq_nil_of_length_eq_zero (by omega)
  rcases ho.2 with h2 | ⟨g', cap', cur, e, _, _, _, h4, _⟩
  ·cases h2.1
  ·cases e
   simp only [maxLen] at h4
   exact ⟨_, cap, by rw [hul], by rw [hx]; simp, by omega, .inl hx⟩
theorem clone_t {v : Value} {M : List (List Int)} {m : Nat} (hm1 : 1 <= m) (hm8 : m <= 1000) (h : Re w v M) (hM : matB p m M = true) : Calls Tryz.prog 50 #[v] w fun e w' => ∃ v, e = .returned v /\ ReG w' w.heap.size v M /\ Below w.heap.size w w' := by
 obtain ⟨h1, h2⟩ := matB_iff.1 hM
 refine (clonerows_c h (fun r hr => by have := (h2 r hr).1; omega) (by omega)).mono ?_
 rintro e w' ⟨g, cap, us, rfl, ho, hr, hb⟩
 have hul := hr.1
 rw [<- hul] at ho ⊢
 exact ⟨_, rfl, RowsF.reg ho hr ⟨g, cap, rfl⟩, hb⟩
set_option maxHeartbeats 4000000 in
set_option maxRecDepth 100000 in
theorem irot_c {a b c : Value} {A B C : List (List Int)} (hd : Dok p st) (hs : El w s st) (hA : Re w a A) (hB : Re w b B) (hC : Re w c C) (mA : matB p (sz st.length) A = true) (mB : matB p (sz st.length) B = true) (mC : matB p (sz st.length) C = true) :
  Calls Tryz.prog 14 #[.agg #[.int .i64 p, s], .agg #[a, b, c]] w fun e w' => OutTr w B C A e w' := by
 obtain ⟨a0, c0, rfl, _⟩ := id hs.op
 obtain ⟨a1, c1, rfl, _⟩ := id hA; obtain ⟨a2, c2, rfl, _⟩ := id hB; obtain ⟨a3, c3, rfl, _⟩ := id hC
 have hl3 := hd.hl; have hsz := sz_le hd
 have hchk := fun W bl k h0 l0 l1 l2 hA hB hC => chktr_c (w := W) (bl := bl) (k := k) (p := p) (st := st) (x := .slice a0 st.length c0) (a := .slice a1 A.length c1) (b := .slice a2 B.length c2) (c := .slice a3 C.length c3) h0 l0 l1 l2 hA hB hC (by omega) ⟨mat_msz hd mA, mat_msz hd mB, mat_msz hd mC⟩
 rw [chkT_zero hd mA mB mC] at hchk
 have kA := fun W (h : Re W (.slice a1 A.length c1) A) => clone_t (w := W) hsz.1 (by omega) h mA
 have kB := fun W (h : Re W (.slice a2 B.length c2) B) => clone_t (w := W) hsz.1 (by omega) h mB
 have kC := fun W (h : Re W (.slice a3 C.length c3) C) => clone_t (w := W) hsz.1 (by omega) h mC
 clear mA mB mC
 go_enter Tryz.func14, Tryz.ntmps14
 have hb0 : Below w.heap.size w (((w.alloc (.cells #[.int .i64 p, .slice a0 st.length c0] 26)).alloc (.cells #[.slice a1 A.length c1, .slice a2 B.length c2, .slice a3 C.length c3] 29)).alloc (.cells #[.slice none 0 0, .slice none 0 0, .slice none 0 0] 29)) := bwT
 have hs := hs.below hb0; have hA := hA.below hb0; have hB := hB.below hb0; have hC := hC.below hb0
 have d0 : (((w.alloc (.cells #[.int .i64 p, .slice a0 st.length c0] 26)).alloc (.cells #[.slice a1 A.length c1, .slice a2 B.length c2, .slice a3 C.length c3] 29)).alloc (.cells #[.slice none 0 0, .slice none 0 0, .slice none 0 0] 29)).cell? ⟨w.heap.size, 0, none⟩ = some (.int .i64 p) := by simp [go_sem]
 have d1 : (((w.alloc (.cells #[.int .i64 p, .slice a0 st.length c0] 26)).alloc (.cells #[.slice a1 A.length c1, .slice a2 B.length c2, .slice a3 C.length c3] 29)).alloc (.cells #[.slice none 0 0, .slice none 0 0, .slice none 0 0] 29)).cell? ⟨w.heap.size, 1, none⟩ = some (.slice a0 st.length c0) := by simp [go_sem]
 have e0 : (((w.alloc (.cells #[.int .i64 p, .slice a0 st.length c0] 26)).alloc (.cells #[.slice a1 A.length c1, .slice a2 B.length c2, .slice a3 C.length c3] 29)).alloc (.cells #[.slice none 0 0, .slice none 0 0, .slice none 0 0] 29)).cell? ⟨w.heap.size + 1, 0, none⟩ = some (.slice a1 A.length c1) := by simp [go_sem]
 have e1 : (((w.alloc (.cells #[.int .i64 p, .slice a0 st.length c0] 26)).alloc (.cells #[.slice a1 A.length c1, .slice a2 B.length c2, .slice a3 C.length c3] 29)).alloc (.cells #[.slice none 0 0, .slice none 0 0, .slice none 0 0] 29)).cell? ⟨w.heap.size + 1, 1, none⟩ = some (.slice a2 B.length c2) := by simp [go_sem]
 have e2 : (((w.alloc (.cells #[.int .i64 p, .slice a0 st.length c0] 26)).alloc (.cells #[.slice a1 A.length c1, .slice a2 B.length c2, .slice a3 C.length c3] 29)).alloc (.cells #[.slice none 0 0, .slice none 0 0, .slice none 0 0] 29)).cell? ⟨w.heap.size + 1, 2, none⟩ = some (.slice a3 C.length c3) := by simp [go_sem]
 have r0 : (((w.alloc (.cells #[.int .i64 p, .slice a0 st.length c0] 26)).alloc (.cells #[.slice a1 A.length c1, .slice a2 B.length c2, .slice a3 C.length c3] 29)).alloc (.cells #[.slice none 0 0, .slice none 0 0, .slice none 0 0] 29)).cell? ⟨w.heap.size + 1 + 1, 0, none⟩ = some (.slice none 0 0) := by simp [go_sem]
 have r1 : (((w.alloc (.cells #[.int .i64 p, .slice a0 st.length c0] 26)).alloc (.cells #[.slice a1 A.length c1, .slice a2 B.length c2, .slice a3 C.length c3] 29)).alloc (.cells #[.slice none 0 0, .slice none 0 0, .slice none 0 0] 29)).cell? ⟨w.heap.size + 1 + 1, 1, none⟩ = some (.slice none 0 0) := by simp [go_sem]
 have r2 : (((w.alloc (.cells #[.int .i64 p, .slice a0 st.length c0] 26)).alloc (.cells #[.slice a1 A.length c1, .slice a2 B.length c2, .slice a3 C.length c3] 29)).alloc (.cells #[.slice none 0 0, .slice none 0 0, .slice none 0 0] 29)).cell? ⟨w.heap.size + 1 + 1, 2, none⟩ = some (.slice none 0 0) := by simp [go_sem]
 have hr : Bt (((w.alloc (.cells #[.int .i64 p, .slice a0 st.length c0] 26)).alloc (.cells #[.slice a1 A.length c1, .slice a2 B.length c2, .slice a3 C.length c3] 29)).alloc (.cells #[.slice none 0 0, .slice none 0 0, .slice none 0 0] 29)) (w.heap.size + 1 + 1) (.slice none 0 0) (.slice none 0 0) (.slice none 0 0) := by
  have h := heap_alloc_new ((w.alloc (.cells #[.int .i64 p, .slice a0 st.length c0] 26)).alloc (.cells #[.slice a1 A.length c1, .slice a2 B.length c2, .slice a3 C.length c3] 29)) (.cells #[.slice none 0 0, .slice none 0 0, .slice none 0 0] 29)
  rw [show ((w.alloc (.cells #[.int .i64 p, .slice a0 st.length c0] 26)).alloc (.cells #[.slice a1 A.length c1, .slice a2 B.length c2, .slice a3 C.length c3] 29)).heap.size = w.heap.size + 1 + 1 by simp] at h
  exact h
 clear r0 r1 r2
 have hz0 : w.heap.size + 1 + 1 + 1 <= (((w.alloc (.cells #[.int .i64 p, .slice a0 st.length c0] 26)).alloc (.cells #[.slice a1 A.length c1, .slice a2 B.length c2, .slice a3 C.length c3] 29)).alloc (.cells #[.slice none 0 0, .slice none 0 0, .slice none 0 0] 29)).heap.size := by simp
 have hb1 : Below (((w.alloc (.cells #[.int .i64 p, .slice a0 st.length c0] 26)).alloc (.cells #[.slice a1 A.length c1, .slice a2 B.length c2, .slice a3 C.length c3] 29)).alloc (.cells #[.slice none 0 0, .slice none 0 0, .slice none 0 0] 29)).heap.size (((w.alloc (.cells #[.int .i64 p, .slice a0 st.length c0] 26)).alloc (.cells #[.slice a1 A.length c1, .slice a2 B.length c2, .slice a3 C.length c3] 29)).alloc (.cells #[.slice none 0 0, .slice none 0 0, .slice none 0 0] 29)) ((((w.alloc (.cells #[.int .i64 p, .slice a0 st.length c0] 26)).alloc (.cells #[.slice a1 A.length c1, .slice a2 B.length c2, .slice a3 C.length c3] 29)).alloc (.cells #[.slice none 0 0, .slice none 0 0, .slice none 0 0] 29)).alloc (.cells #[.slice a1 A.length c1, .slice a2 B.length c2, .slice a3 C.length c3] 29)) := bwT
 have hs := hs.below hb1; have hA := hA.below hb1; have hB := hB.below hb1; have hC := hC.below hb1; have d0 := kept hb1 d0; have d1 := kept hb1 d1; have e0 := kept hb1 e0; have e1 := kept hb1 e1; have e2 := kept hb1 e2; have hr := hr.below hb1
 have l0 : ((((w.alloc (.cells #[.int .i64 p, .slice a0 st.length c0] 26)).alloc (.cells #[.slice a1 A.length c1, .slice a2 B.length c2, .slice a3 C.length c3] 29)).alloc (.cells #[.slice none 0 0, .slice none 0 0, .slice none 0 0] 29)).alloc (.cells #[.slice a1 A.length c1, .slice a2 B.length c2, .slice a3 C.length c3] 29)).cell? ⟨w.heap.size + 1 + 1 + 1, 0, none⟩ = some (.slice a1 A.length c1) := by simp [go_sem]
 have l1 : ((((w.alloc (.cells #[.int .i64 p, .slice a0 st.length c0] 26)).alloc (.cells #[.slice a1 A.length c1, .slice a2 B.length c2, .slice a3 C.length c3] 29)).alloc (.cells #[.slice none 0 0, .slice none 0 0, .slice none 0 0] 29)).alloc (.cells #[.slice a1 A.length c1, .slice a2 B.length c2, .slice a3 C.length c3] 29)).cell? ⟨w.heap.size + 1 + 1 + 1, 1, none⟩ = some (.slice a2 B.length c2) := by simp [go_sem]
 have l2 : ((((w.alloc (.cells #[.int .i64 p, .slice a0 st.length c0] 26)).alloc (.cells #[.slice a1 A.length c1, .slice a2 B.length c2, .slice a3 C.length c3] 29)).alloc (.cells #[.slice none 0 0, .slice none 0 0, .slice none 0 0] 29)).alloc (.cells #[.slice a1 A.length c1, .slice a2 B.length c2, .slice a3 C.length c3] 29)).cell? ⟨w.heap.size + 1 + 1 + 1, 2, none⟩ = some (.slice a3 C.length c3) := by simp [go_sem]
 go_wp2_with fail
 refine (hchk _ _ _ hs l0 l1 l2 hA hB hC).mono ?_; rintro e w2 ⟨rfl, hb2⟩
 have hs := hs.below hb2; have hA := hA.below hb2; have hB := hB.below hb2; have hC := hC.below hb2; have d0 := kept hb2 d0; have d1 := kept hb2 d1; have e0 := kept hb2 e0; have e1 := kept hb2 e1; have e2 := kept hb2 e2; have hr := hr.below hb2; have l0 := kept hb2 l0; have l1 := kept hb2 l1; have l2 := kept hb2 l2
 have hbx : Below w.heap.size w w2 := bwT
 have hzz : w.heap.size + 1 + 1 + 1 <= w2.heap.size := Nat.le_trans hz0 (Nat.le_trans hb1.size hb2.size)
 clear l0 l1 l2 hchk hz0 hb0 hb1 hb2
 go_wp2_with fail
 refine region_flow [(false, [(0, 0), (1, 1), (3, 0), (4, 1), (6, 0), (7, 1), (2, 5)]), (false, [(5, 5)]), (false, [(8, 4), (9, 0), (10, 4), (11, 0)])] (by kernel_rfl) ?_
 refine norm_K fun K hK => ?_
 change wpList _ _ _ [_, _, _, _, _, _, _] _ _
 have hb3 : Below w2.heap.size w2 w2.drew := bwT
 have hs := hs.below hb3; have hA := hA.below hb3; have hB := hB.below hb3; have hC := hC.below hb3; have d0 := kept hb3 d0; have d1 := kept hb3 d1; have e0 := kept hb3 e0; have e1 := kept hb3 e1; have e2 := kept hb3 e2; have hr := hr.below hb3
 generalize w2.drew = wq at *
 have hbx := hbx.trans (hb3.mono hbx.size)
 have hzz := Nat.le_trans hzz hb3.size
 go_wp2_with fail
 refine (kB _ hB).mono ?_; rintro e w4 ⟨v1, rfl, h1, hb4⟩
 have hs := hs.below hb4; have hA := hA.below hb4; have hB := hB.below hb4; have hC := hC.below hb4; have d0 := kept hb4 d0; have d1 := kept hb4 d1; have e0 := kept hb4 e0; have e1 := kept hb4 e1; have e2 := kept hb4 e2; have hr := hr.below hb4
 go_wp2_with fail
 have hz0 : Below wq.heap.size wq w4 := bwT
 first | (refine hK _ _ ⟨hz0, ?_⟩; clear hK K) | refine ⟨hz0, ?_⟩
 clear hz0
 refine norm_K fun K hK => ?_
 change wpList _ _ _ [_] _ _
 obtain ⟨g1, k1, rfl⟩ := h1.shape
 have h1 := h1.more hzz
 go_wp2_with fail
 refine (kC _ hC).mono ?_; rintro e w5 ⟨v2, rfl, h2, hb5⟩
 have hs := hs.below hb5; have hA := hA.below hb5; have hB := hB.below hb5; have hC := hC.below hb5; have d0 := kept hb5 d0; have d1 := kept hb5 d1; have e0 := kept hb5 e0; have e1 := kept hb5 e1; have e2 := kept hb5 e2; have hr := hr.below hb5; have h1 := h1.below hb5
 go_wp2_with fail
 have hz1 : Below wq.heap.size wq w5 := bwT
 first | (refine hK _ _ ⟨hz1, ?_⟩; clear hK K) | refine ⟨hz1, ?_⟩
 clear hz1
 refine norm_K fun K hK => ?_
 change wpList _ _ _ [_, _, _, _] _ _
 obtain ⟨g2, k2, rfl⟩ := h2.shape
 have h2 := h2.more (Nat.le_trans hzz hb4.size)
 go_wp2_with fail
 refine (kA _ hA).mono ?_; rintro e w6 ⟨v3, rfl, h3, hb6⟩
 have hs := hs.below hb6; have hA := hA.below hb6; have hB := hB.below hb6; have hC := hC.below hb6; have d0 := kept hb6 d0; have d1 := kept hb6 d1; have e0 := kept hb6 e0; have e1 := kept hb6 e1; have e2 := kept hb6 e2; have hr := hr.below hb6; have h1 := h1.below hb6; have h2 := h2.below hb6
 obtain ⟨g3, k3, rfl⟩ := h3.shape
 have h3 := h3.more (Nat.le_trans hzz (Nat.le_trans hb4.size hb5.size))
 have hfo : Below wq.heap.size wq w6 := bwT
 have hbx := hbx.trans (hfo.mono hbx.size)
 have r0 := hr.c0; have r1 := hr.c1; have r2 := hr.c2; have rf0 := hr.f 0; have rf1 := hr.f 1; have rf2 := hr.f 2
 go_wp2_with fail
 first | (refine hK _ _ ⟨rfl, ?_⟩; clear hK K) | refine ⟨rfl, ?_⟩
 go_wp2_with fail
 refine bodyPost_ret (v := .tuple #[.agg #[.slice g1 B.length k1, .slice g2 C.length k2, .slice g3 A.length k3], .int .i64 0]) (by simp [results, Tryz.results14, go_sem, r0, r1, r2]) rfl ?_
 have hL : w.heap.size <= w.heap.size + 1 + 1 := by omega
 exact ⟨bwS (bwS (bwS hbx hL _) hL _) hL _, _, _, _, rfl, re_set3 h1.rer (by omega) _ _ _, re_set3 h2.rer (by omega) _ _ _, re_set3 h3.rer (by omega) _ _ _⟩
set_option maxHeartbeats 4000000 in
set_option maxRecDepth 100000 in
theorem itim_c {b1 b2 b3 b4 b5 b6 : Value} {A B C A' B' C' : List (List Int)} (hd : Dok p st) (hs : El w s st) (hA : Re w b1 A) (hB : Re w b2 B) (hC : Re w b3 C) (hA' : Re w b4 A') (hB' : Re w b5 B') (hC' : Re w b6 C')
  (mA : matB p (sz st.length) A = true) (mB : matB p (sz st.length) B = true) (mC : matB p (sz st.length) C = true) (mA' : matB p (sz st.length) A' = true) (mB' : matB p (sz st.length) B' = true) (mC' : matB p (sz st.length) C' = true) :
  Calls Tryz.prog 15 #[.agg #[.int .i64 p, s], .agg #[b1, b2, b3], .agg #[b4, b5, b6]] w fun e w' => OutTr w (mulM p (sz st.length) A A') (mulM p (sz st.length) B B') (mulM p (sz st.length) C C') e w' := by
 obtain ⟨a0, c0, rfl, _⟩ := id hs.op
 obtain ⟨a1, c1, rfl, _⟩ := id hA; obtain ⟨a2, c2, rfl, _⟩ := id hB; obtain ⟨a3, c3, rfl, _⟩ := id hC
 obtain ⟨a4, c4, rfl, _⟩ := id hA'; obtain ⟨a5, c5, rfl, _⟩ := id hB'; obtain ⟨a6, c6, rfl, _⟩ := id hC'
 have hl3 := hd.hl; have hsz := sz_le hd; have hp1 := hd.hp.lo; have hp13 := hd.hp.hi
 have hchk := fun W bl k h0 l0 l1 l2 l3 l4 l5 g1 g2 g3 g4 g5 g6 => tchk2_c (w := W) (bl := bl) (k := k) (p := p) (x := .slice a0 st.length c0) (b1 := .slice a1 A.length c1) (b2 := .slice a2 B.length c2) (b3 := .slice a3 C.length c3) (b4 := .slice a4 A'.length c4) (b5 := .slice a5 B'.length c5) (b6 := .slice a6 C'.length c6) hd h0 l0 l1 l2 l3 l4 l5 g1 g2 g3 g4 g5 g6 mA mB mC mA' mB' mC'
 have kA := fun W (h : Re W (.slice a1 A.length c1) A) (h' : Re W (.slice a4 A'.length c4) A') => ftimes_c (w := W) (show 1 <= p by omega) hp13 hsz.1 hsz.2 h h' mA mA'
 have kB := fun W (h : Re W (.slice a2 B.length c2) B) (h' : Re W (.slice a5 B'.length c5) B') => ftimes_c (w := W) (show 1 <= p by omega) hp13 hsz.1 hsz.2 h h' mB mB'
 have kC := fun W (h : Re W (.slice a3 C.length c3) C) (h' : Re W (.slice a6 C'.length c6) C') => ftimes_c (w := W) (show 1 <= p by omega) hp13 hsz.1 hsz.2 h h' mC mC'
 clear mA mB mC mA' mB' mC'
 obtain ⟨X, hX⟩ : ∃ X, X = mulM p (sz st.length) A A' := ⟨_, rfl⟩; obtain ⟨Y, hY⟩ : ∃ X, X = mulM p (sz st.length) B B' := ⟨_, rfl⟩; obtain ⟨Z, hZ⟩ : ∃ X, X = mulM p (sz st.length) C C' := ⟨_, rfl⟩
 simp only [<- hX] at kA ⊢; simp only [<- hY] at kB ⊢; simp only [<- hZ] at kC ⊢
 clear hX hY hZ
 go_enter Tryz.func15, Tryz.ntmps15
 have hb0 : Below w.heap.size w ((((w.alloc (.cells #[.int .i64 p, .slice a0 st.length c0] 26)).alloc (.cells #[.slice a1 A.length c1, .slice a2 B.length c2, .slice a3 C.length c3] 29)).alloc (.cells #[.slice a4 A'.length c4, .slice a5 B'.length c5, .slice a6 C'.length c6] 29)).alloc (.cells #[.slice none 0 0, .slice none 0 0, .slice none 0 0] 29)) := bwT
 have hs := hs.below hb0; have hA := hA.below hb0; have hB := hB.below hb0; have hC := hC.below hb0; have hA' := hA'.below hb0; have hB' := hB'.below hb0; have hC' := hC'.below hb0
 have d0 : ((((w.alloc (.cells #[.int .i64 p, .slice a0 st.length c0] 26)).alloc (.cells #[.slice a1 A.length c1, .slice a2 B.length c2, .slice a3 C.length c3] 29)).alloc (.cells #[.slice a4 A'.length c4, .slice a5 B'.length c5, .slice a6 C'.length c6] 29)).alloc (.cells #[.slice none 0 0, .slice none 0 0, .slice none 0 0] 29)).cell? ⟨w.heap.size, 0, none⟩ = some (.int .i64 p) := by simp [go_sem]
 have d1 : ((((w.alloc (.cells #[.int .i64 p, .slice a0 st.length c0] 26)).alloc (.cells #[.slice a1 A.length c1, .slice a2 B.length c2, .slice a3 C.length c3] 29)).alloc (.cells #[.slice a4 A'.length c4, .slice a5 B'.length c5, .slice a6 C'.length c6] 29)).alloc (.cells #[.slice none 0 0, .slice none 0 0, .slice none 0 0] 29)).cell? ⟨w.heap.size, 1, none⟩ = some (.slice a0 st.length c0) := by simp [go_sem]
 have e0 : ((((w.alloc (.cells #[.int .i64 p, .slice a0 st.length c0] 26)).alloc (.cells #[.slice a1 A.length c1, .slice a2 B.length c2, .slice a3 C.length c3] 29)).alloc (.cells #[.slice a4 A'.length c4, .slice a5 B'.length c5, .slice a6 C'.length c6] 29)).alloc (.cells #[.slice none 0 0, .slice none 0 0, .slice none 0 0] 29)).cell? ⟨w.heap.size + 1, 0, none⟩ = some (.slice a1 A.length c1) := by simp [go_sem]
 have e1 : ((((w.alloc (.cells #[.int .i64 p, .slice a0 st.length c0] 26)).alloc (.cells #[.slice a1 A.length c1, .slice a2 B.length c2, .slice a3 C.length c3] 29)).alloc (.cells #[.slice a4 A'.length c4, .slice a5 B'.length c5, .slice a6 C'.length c6] 29)).alloc (.cells #[.slice none 0 0, .slice none 0 0, .slice none 0 0] 29)).cell? ⟨w.heap.size + 1, 1, none⟩ = some (.slice a2 B.length c2) := by simp [go_sem]
 have e2 : ((((w.alloc (.cells #[.int .i64 p, .slice a0 st.length c0] 26)).alloc (.cells #[.slice a1 A.length c1, .slice a2 B.length c2, .slice a3 C.length c3] 29)).alloc (.cells #[.slice a4 A'.length c4, .slice a5 B'.length c5, .slice a6 C'.length c6] 29)).alloc (.cells #[.slice none 0 0, .slice none 0 0, .slice none 0 0] 29)).cell? ⟨w.heap.size + 1, 2, none⟩ = some (.slice a3 C.length c3) := by simp [go_sem]
 have f0 : ((((w.alloc (.cells #[.int .i64 p, .slice a0 st.length c0] 26)).alloc (.cells #[.slice a1 A.length c1, .slice a2 B.length c2, .slice a3 C.length c3] 29)).alloc (.cells #[.slice a4 A'.length c4, .slice a5 B'.length c5, .slice a6 C'.length c6] 29)).alloc (.cells #[.slice none 0 0, .slice none 0 0, .slice none 0 0] 29)).cell? ⟨w.heap.size + 1 + 1, 0, none⟩ = some (.slice a4 A'.length c4) := by simp [go_sem]
 have f1 : ((((w.alloc (.cells #[.int .i64 p, .slice a0 st.length c0] 26)).alloc (.cells #[.slice a1 A.length c1, .slice a2 B.length c2, .slice a3 C.length c3] 29)).alloc (.cells #[.slice a4 A'.length c4, .slice a5 B'.length c5, .slice a6 C'.length c6] 29)).alloc (.cells #[.slice none 0 0, .slice none 0 0, .slice none 0 0] 29)).cell? ⟨w.heap.size + 1 + 1, 1, none⟩ = some (.slice a5 B'.length c5) := by simp [go_sem]
 have f2 : ((((w.alloc (.cells #[.int .i64 p, .slice a0 st.length c0] 26)).alloc (.cells #[.slice a1 A.length c1, .slice a2 B.length c2, .slice a3 C.length c3] 29)).alloc (.cells #[.slice a4 A'.length c4, .slice a5 B'.length c5, .slice a6 C'.length c6] 29)).alloc (.cells #[.slice none 0 0, .slice none 0 0, .slice none 0 0] 29)).cell? ⟨w.heap.size + 1 + 1, 2, none⟩ = some (.slice a6 C'.length c6) := by simp [go_sem]
 have r0 : ((((w.alloc (.cells #[.int .i64 p, .slice a0 st.length c0] 26)).alloc (.cells #[.slice a1 A.length c1, .slice a2 B.length c2, .slice a3 C.length c3] 29)).alloc (.cells #[.slice a4 A'.length c4, .slice a5 B'.length c5, .slice a6 C'.length c6] 29)).alloc (.cells #[.slice none 0 0, .slice none 0 0, .slice none 0 0] 29)).cell? ⟨w.heap.size + 1 + 1 + 1, 0, none⟩ = some (.slice none 0 0) := by simp [go_sem]
 have r1 : ((((w.alloc (.cells #[.int .i64 p, .slice a0 st.length c0] 26)).alloc (.cells #[.slice a1 A.length c1, .slice a2 B.length c2, .slice a3 C.length c3] 29)).alloc (.cells #[.slice a4 A'.length c4, .slice a5 B'.length c5, .slice a6 C'.length c6] 29)).alloc (.cells #[.slice none 0 0, .slice none 0 0, .slice none 0 0] 29)).cell? ⟨w.heap.size + 1 + 1 + 1, 1, none⟩ = some (.slice none 0 0) := by simp [go_sem]
 have r2 : ((((w.alloc (.cells #[.int .i64 p, .slice a0 st.length c0] 26)).alloc (.cells #[.slice a1 A.length c1, .slice a2 B.length c2, .slice a3 C.length c3] 29)).alloc (.cells #[.slice a4 A'.length c4, .slice a5 B'.length c5, .slice a6 C'.length c6] 29)).alloc (.cells #[.slice none 0 0, .slice none 0 0, .slice none 0 0] 29)).cell? ⟨w.heap.size + 1 + 1 + 1, 2, none⟩ = some (.slice none 0 0) := by simp [go_sem]
 have hr : Bt ((((w.alloc (.cells #[.int .i64 p, .slice a0 st.length c0] 26)).alloc (.cells #[.slice a1 A.length c1, .slice a2 B.length c2, .slice a3 C.length c3] 29)).alloc (.cells #[.slice a4 A'.length c4, .slice a5 B'.length c5, .slice a6 C'.length c6] 29)).alloc (.cells #[.slice none 0 0, .slice none 0 0, .slice none 0 0] 29)) (w.heap.size + 1 + 1 + 1) (.slice none 0 0) (.slice none 0 0) (.slice none 0 0) := by
  have h := heap_alloc_new (((w.alloc (.cells #[.int .i64 p, .slice a0 st.length c0] 26)).alloc (.cells #[.slice a1 A.length c1, .slice a2 B.length c2, .slice a3 C.length c3] 29)).alloc (.cells #[.slice a4 A'.length c4, .slice a5 B'.length c5, .slice a6 C'.length c6] 29)) (.cells #[.slice none 0 0, .slice none 0 0, .slice none 0 0] 29)
  rw [show (((w.alloc (.cells #[.int .i64 p, .slice a0 st.length c0] 26)).alloc (.cells #[.slice a1 A.length c1, .slice a2 B.length c2, .slice a3 C.length c3] 29)).alloc (.cells #[.slice a4 A'.length c4, .slice a5 B'.length c5, .slice a6 C'.length c6] 29)).heap.size = w.heap.size + 1 + 1 + 1 by simp] at h
  exact h
 clear r0 r1 r2
 have hz0 : w.heap.size + 1 + 1 + 1 + 1 <= ((((w.alloc (.cells #[.int .i64 p, .slice a0 st.length c0] 26)).alloc (.cells #[.slice a1 A.length c1, .slice a2 B.length c2, .slice a3 C.length c3] 29)).alloc (.cells #[.slice a4 A'.length c4, .slice a5 B'.length c5, .slice a6 C'.length c6] 29)).alloc (.cells #[.slice none 0 0, .slice none 0 0, .slice none 0 0] 29)).heap.size := by simp
 have hb1 : Below ((((w.alloc (.cells #[.int .i64 p, .slice a0 st.length c0] 26)).alloc (.cells #[.slice a1 A.length c1, .slice a2 B.length c2, .slice a3 C.length c3] 29)).alloc (.cells #[.slice a4 A'.length c4, .slice a5 B'.length c5, .slice a6 C'.length c6] 29)).alloc (.cells #[.slice none 0 0, .slice none 0 0, .slice none 0 0] 29)).heap.size ((((w.alloc (.cells #[.int .i64 p, .slice a0 st.length c0] 26)).alloc (.cells #[.slice a1 A.length c1, .slice a2 B.length c2, .slice a3 C.length c3] 29)).alloc (.cells #[.slice a4 A'.length c4, .slice a5 B'.length c5, .slice a6 C'.length c6] 29)).alloc (.cells #[.slice none 0 0, .slice none 0 0, .slice none 0 0] 29)) (((((w.alloc (.cells #[.int .i64 p, .slice a0 st.length c0] 26)).alloc (.cells #[.slice a1 A.length c1, .slice a2 B.length c2, .slice a3 C.length c3] 29)).alloc (.cells #[.slice a4 A'.length c4, .slice a5 B'.length c5, .slice a6 C'.length c6] 29)).alloc (.cells #[.slice none 0 0, .slice none 0 0, .slice none 0 0] 29)).alloc (.cells #[.slice a1 A.length c1, .slice a2 B.length c2, .slice a3 C.length c3, .slice a4 A'.length c4, .slice a5 B'.length c5, .slice a6 C'.length c6] 29)) := bwT
 have hs := hs.below hb1; have hA := hA.below hb1; have hB := hB.below hb1; have hC := hC.below hb1; have hA' := hA'.below hb1; have hB' := hB'.below hb1; have hC' := hC'.below hb1; have d0 := kept hb1 d0; have d1 := kept hb1 d1; have e0 := kept hb1 e0; have e1 := kept hb1 e1; have e2 := kept hb1 e2; have f0 := kept hb1 f0; have f1 := kept hb1 f1; have f2 := kept hb1 f2; have hr := hr.below hb1
 have l0 : (((((w.alloc (.cells #[.int .i64 p, .slice a0 st.length c0] 26)).alloc (.cells #[.slice a1 A.length c1, .slice a2 B.length c2, .slice a3 C.length c3] 29)).alloc (.cells #[.slice a4 A'.length c4, .slice a5 B'.length c5, .slice a6 C'.length c6] 29)).alloc (.cells #[.slice none 0 0, .slice none 0 0, .slice none 0 0] 29)).alloc (.cells #[.slice a1 A.length c1, .slice a2 B.length c2, .slice a3 C.length c3, .slice a4 A'.length c4, .slice a5 B'.length c5, .slice a6 C'.length c6] 29)).cell? ⟨w.heap.size + 1 + 1 + 1 + 1, 0, none⟩ = some (.slice a1 A.length c1) := by simp [go_sem]
 have l1 : (((((w.alloc (.cells #[.int .i64 p, .slice a0 st.length c0] 26)).alloc (.cells #[.slice a1 A.length c1, .slice a2 B.length c2, .slice a3 C.length c3] 29)).alloc (.cells #[.slice a4 A'.length c4, .slice a5 B'.length c5, .slice a6 C'.length c6] 29)).alloc (.cells #[.slice none 0 0, .slice none 0 0, .slice none 0 0] 29)).alloc (.cells #[.slice a1 A.length c1, .slice a2 B.length c2, .slice a3 C.length c3, .slice a4 A'.length c4, .slice a5 B'.length c5, .slice a6 C'.length c6] 29)).cell? ⟨w.heap.size + 1 + 1 + 1 + 1, 1, none⟩ = some (.slice a2 B.length c2) := by simp [go_sem]
 have l2 : (((((w.alloc (.cells #[.int .i64 p, .slice a0 st.length c0] 26)).alloc (.cells #[.slice a1 A.length c1, .slice a2 B.length c2, .slice a3 C.length c3] 29)).alloc (.cells #[.slice a4 A'.length c4, .slice a5 B'.length c5, .slice a6 C'.length c6] 29)).alloc (.cells #[.slice none 0 0, .slice none 0 0, .slice none 0 0] 29)).alloc (.cells #[.slice a1 A.length c1, .slice a2 B.length c2, .slice a3 C.length c3, .slice a4 A'.length c4, .slice a5 B'.length c5, .slice a6 C'.length c6] 29)).cell? ⟨w.heap.size + 1 + 1 + 1 + 1, 2, none⟩ = some (.slice a3 C.length c3) := by simp [go_sem]
 have l3 : (((((w.alloc (.cells #[.int .i64 p, .slice a0 st.length c0] 26)).alloc (.cells #[.slice a1 A.length c1, .slice a2 B.length c2, .slice a3 C.length c3] 29)).alloc (.cells #[.slice a4 A'.length c4, .slice a5 B'.length c5, .slice a6 C'.length c6] 29)).alloc (.cells #[.slice none 0 0, .slice none 0 0, .slice none 0 0] 29)).alloc (.cells #[.slice a1 A.length c1, .slice a2 B.length c2, .slice a3 C.length c3, .slice a4 A'.length c4, .slice a5 B'.length c5, .slice a6 C'.length c6] 29)).cell? ⟨w.heap.size + 1 + 1 + 1 + 1, 3, none⟩ = some (.slice a4 A'.length c4) := by simp [go_sem]
 have l4 : (((((w.alloc (.cells #[.int .i64 p, .slice a0 st.length c0] 26)).alloc (.cells #[.slice a1 A.length c1, .slice a2 B.length c2, .slice a3 C.length c3] 29)).alloc (.cells #[.slice a4 A'.length c4, .slice a5 B'.length c5, .slice a6 C'.length c6] 29)).alloc (.cells #[.slice none 0 0, .slice none 0 0, .slice none 0 0] 29)).alloc (.cells #[.slice a1 A.length c1, .slice a2 B.length c2, .slice a3 C.length c3, .slice a4 A'.length c4, .slice a5 B'.length c5, .slice a6 C'.length c6] 29)).cell? ⟨w.heap.size + 1 + 1 + 1 + 1, 4, none⟩ = some (.slice a5 B'.length c5) := by simp [go_sem]
 have l5 : (((((w.alloc (.cells #[.int .i64 p, .slice a0 st.length c0] 26)).alloc (.cells #[.slice a1 A.length c1, .slice a2 B.length c2, .slice a3 C.length c3] 29)).alloc (.cells #[.slice a4 A'.length c4, .slice a5 B'.length c5, .slice a6 C'.length c6] 29)).alloc (.cells #[.slice none 0 0, .slice none 0 0, .slice none 0 0] 29)).alloc (.cells #[.slice a1 A.length c1, .slice a2 B.length c2, .slice a3 C.length c3, .slice a4 A'.length c4, .slice a5 B'.length c5, .slice a6 C'.length c6] 29)).cell? ⟨w.heap.size + 1 + 1 + 1 + 1, 5, none⟩ = some (.slice a6 C'.length c6) := by simp [go_sem]
 go_wp2_with fail
 refine (hchk _ _ _ hs l0 l1 l2 l3 l4 l5 hA hB hC hA' hB' hC').mono ?_; rintro e w2 ⟨rfl, hb2⟩
 have hs := hs.below hb2; have hA := hA.below hb2; have hB := hB.below hb2; have hC := hC.below hb2; have hA' := hA'.below hb2; have hB' := hB'.below hb2; have hC' := hC'.below hb2; have d0 := kept hb2 d0; have d1 := kept hb2 d1; have e0 := kept hb2 e0; have e1 := kept hb2 e1; have e2 := kept hb2 e2; have f0 := kept hb2 f0; have f1 := kept hb2 f1; have f2 := kept hb2 f2; have hr := hr.below hb2; have l0 := kept hb2 l0; have l1 := kept hb2 l1; have l2 := kept hb2 l2; have l3 := kept hb2 l3; have l4 := kept hb2 l4; have l5 := kept hb2 l5
 have hbx : Below w.heap.size w w2 := bwT
 have hzz : w.heap.size + 1 + 1 + 1 + 1 <= w2.heap.size := Nat.le_trans hz0 (Nat.le_trans hb1.size hb2.size)
 clear l0 l1 l2 l3 l4 l5 hchk hz0 hb0 hb1 hb2
 go_wp2_with fail
 refine (dfield_c).mono ?_; rintro e w3 ⟨rfl, hb3⟩
 have hs := hs.below hb3; have hA := hA.below hb3; have hB := hB.below hb3; have hC := hC.below hb3; have hA' := hA'.below hb3; have hB' := hB'.below hb3; have hC' := hC'.below hb3; have d0 := kept hb3 d0; have d1 := kept hb3 d1; have e0 := kept hb3 e0; have e1 := kept hb3 e1; have e2 := kept hb3 e2; have f0 := kept hb3 f0; have f1 := kept hb3 f1; have f2 := kept hb3 f2; have hr := hr.below hb3
 have hbx := hbx.trans (hb3.mono hbx.size)
 have hzz := Nat.le_trans hzz hb3.size
 clear hb3
 go_wp2_with fail
 refine region_flow [(false, [(0, 0), (1, 0), (2, 1), (3, 0), (4, 1), (6, 0), (7, 0), (8, 1), (9, 0), (10, 1), (12, 0), (13, 0), (14, 1), (15, 0), (16, 1), (5, 5)]), (false, [(11, 5)]), (false, [(17, 4), (18, 0), (19, 4), (20, 0)])] (by kernel_rfl) ?_
 refine norm_K fun K hK => ?_
 change wpList _ _ _ [_, _, _, _, _, _, _, _, _, _, _, _, _, _, _, _] _ _
 have hb4 : Below w3.heap.size w3 w3.drew := bwT
 have hs := hs.below hb4; have hA := hA.below hb4; have hB := hB.below hb4; have hC := hC.below hb4; have hA' := hA'.below hb4; have hB' := hB'.below hb4; have hC' := hC'.below hb4; have d0 := kept hb4 d0; have d1 := kept hb4 d1; have e0 := kept hb4 e0; have e1 := kept hb4 e1; have e2 := kept hb4 e2; have f0 := kept hb4 f0; have f1 := kept hb4 f1; have f2 := kept hb4 f2; have hr := hr.below hb4
 generalize w3.drew = wq at *
 have hbx := hbx.trans (hb4.mono hbx.size)
 have hzz := Nat.le_trans hzz hb4.size
 go_wp2_with fail
 refine (kA _ hA hA').mono ?_; rintro e w5 ⟨v1, rfl, h1, hb5⟩
 have hs := hs.below hb5; have hA := hA.below hb5; have hB := hB.below hb5; have hC := hC.below hb5; have hA' := hA'.below hb5; have hB' := hB'.below hb5; have hC' := hC'.below hb5; have d0 := kept hb5 d0; have d1 := kept hb5 d1; have e0 := kept hb5 e0; have e1 := kept hb5 e1; have e2 := kept hb5 e2; have f0 := kept hb5 f0; have f1 := kept hb5 f1; have f2 := kept hb5 f2; have hr := hr.below hb5
 go_wp2_with fail
 have hz0 : Below wq.heap.size wq w5 := bwT
 first | (refine hK _ _ ⟨hz0, ?_⟩; clear hK K) | refine ⟨hz0, ?_⟩
 clear hz0
 refine norm_K fun K hK => ?_
 change wpList _ _ _ [_] _ _
 obtain ⟨g1, k1, rfl⟩ := h1.shapeA
 have h1 := h1.more hzz
 go_wp2_with fail
 refine (kB _ hB hB').mono ?_; rintro e w6 ⟨v2, rfl, h2, hb6⟩
 have hs := hs.below hb6; have hA := hA.below hb6; have hB := hB.below hb6; have hC := hC.below hb6; have hA' := hA'.below hb6; have hB' := hB'.below hb6; have hC' := hC'.below hb6; have d0 := kept hb6 d0; have d1 := kept hb6 d1; have e0 := kept hb6 e0; have e1 := kept hb6 e1; have e2 := kept hb6 e2; have f0 := kept hb6 f0; have f1 := kept hb6 f1; have f2 := kept hb6 f2; have hr := hr.below hb6; have h1 := h1.below hb6
 go_wp2_with fail
 have hz1 : Below wq.heap.size wq w6 := bwT
 first | (refine hK _ _ ⟨hz1, ?_⟩; clear hK K) | refine ⟨hz1, ?_⟩
 clear hz1
 refine norm_K fun K hK => ?_
 change wpList _ _ _ [_, _, _, _] _ _
 obtain ⟨g2, k2, rfl⟩ := h2.shapeA
 have h2 := h2.more (Nat.le_trans hzz hb5.size)
 go_wp2_with fail
 refine (kC _ hC hC').mono ?_; rintro e w7 ⟨v3, rfl, h3, hb7⟩
 have hs := hs.below hb7; have hA := hA.below hb7; have hB := hB.below hb7; have hC := hC.below hb7; have hA' := hA'.below hb7; have hB' := hB'.below hb7; have hC' := hC'.below hb7; have d0 := kept hb7 d0; have d1 := kept hb7 d1; have e0 := kept hb7 e0; have e1 := kept hb7 e1; have e2 := kept hb7 e2; have f0 := kept hb7 f0; have f1 := kept hb7 f1; have f2 := kept hb7 f2; have hr := hr.below hb7; have h1 := h1.below hb7; have h2 := h2.below hb7
 obtain ⟨g3, k3, rfl⟩ := h3.shapeA
 have h3 := h3.more (Nat.le_trans hzz (Nat.le_trans hb5.size hb6.size))
 have hfo : Below wq.heap.size wq w7 := bwT
 have hbx := hbx.trans (hfo.mono hbx.size)
 have r0 := hr.c0; have r1 := hr.c1; have r2 := hr.c2; have rf0 := hr.f 0; have rf1 := hr.f 1; have rf2 := hr.f 2
 go_wp2_with fail
 first | (refine hK _ _ ⟨rfl, ?_⟩; clear hK K) | refine ⟨rfl, ?_⟩
 go_wp2_with fail
 refine bodyPost_ret (v := .tuple #[.agg #[.slice g1 X.length k1, .slice g2 Y.length k2, .slice g3 Z.length k3], .int .i64 0]) (by simp [results, Tryz.results15, go_sem, r0, r1, r2]) rfl ?_
 have hL : w.heap.size <= w.heap.size + 1 + 1 + 1 := by omega
 exact ⟨bwS (bwS (bwS hbx hL _) hL _) hL _, _, _, _, rfl, re_set3 h1 (by omega) _ _ _, re_set3 h2 (by omega) _ _ _, re_set3 h3 (by omega) _ _ _⟩
set_option maxHeartbeats 4000000 in
theorem triple9_c {a b c a' b' c' : Value} {A B C : List (List Int)} (hA : Re w a A) (hB : Re w b B) (hC : Re w c C) (hA' : Re w a' A) (hB' : Re w b' B) (hC' : Re w c' C) (zA : Msz A) (zB : Msz B) (zC : Msz C) :
  Calls Tryz.prog 13 #[.agg #[a, b, c], .agg #[a', b', c']] w fun e w' => e = .returned (.bool true) /\ Below w.heap.size w w' := by
 obtain ⟨a1, c1, rfl, _⟩ := id hA; obtain ⟨a2, c2, rfl, _⟩ := id hB; obtain ⟨a3, c3, rfl, _⟩ := id hC
 obtain ⟨a4, c4, rfl, _⟩ := id hA'; obtain ⟨a5, c5, rfl, _⟩ := id hB'; obtain ⟨a6, c6, rfl, _⟩ := id hC'
 have kk : ∀ {M : List (List Int)} {u v : Value} {W : World}, Msz M -> Re W u M -> Re W v M -> Calls Tryz.prog 49 #[u, v] W fun e w' => e = .returned (.bool true) /\ Below W.heap.size W w' := fun z h h' => same9_c h.rs h'.rs z.h2 z.h3
 have kA := fun W (h : Re W (.slice a1 A.length c1) A) (h' : Re W (.slice a4 A.length c4) A) => kk zA h h'
 have kB := fun W (h : Re W (.slice a2 B.length c2) B) (h' : Re W (.slice a5 B.length c5) B) => kk zB h h'
 have kC := fun W (h : Re W (.slice a3 C.length c3) C) (h' : Re W (.slice a6 C.length c6) C) => kk zC h h'
 clear kk zA zB zC
 go_enter Tryz.func13, Tryz.ntmps13
 have hb0 : Below w.heap.size w ((w.alloc (.cells #[.slice a1 A.length c1, .slice a2 B.length c2, .slice a3 C.length c3] 29)).alloc (.cells #[.slice a4 A.length c4, .slice a5 B.length c5, .slice a6 C.length c6] 29)) := bwT
 have hA := hA.below hb0; have hB := hB.below hb0; have hC := hC.below hb0; have hA' := hA'.below hb0; have hB' := hB'.below hb0; have hC' := hC'.below hb0
 have e0 : ((w.alloc (.cells #[.slice a1 A.length c1, .slice a2 B.length c2, .slice a3 C.length c3] 29)).alloc (.cells #[.slice a4 A.length c4, .slice a5 B.length c5, .slice a6 C.length c6] 29)).cell? ⟨w.heap.size, 0, none⟩ = some (.slice a1 A.length c1) := by simp [go_sem]
 have e1 : ((w.alloc (.cells #[.slice a1 A.length c1, .slice a2 B.length c2, .slice a3 C.length c3] 29)).alloc (.cells #[.slice a4 A.length c4, .slice a5 B.length c5, .slice a6 C.length c6] 29)).cell? ⟨w.heap.size, 1, none⟩ = some (.slice a2 B.length c2) := by simp [go_sem]
 have e2 : ((w.alloc (.cells #[.slice a1 A.length c1, .slice a2 B.length c2, .slice a3 C.length c3] 29)).alloc (.cells #[.slice a4 A.length c4, .slice a5 B.length c5, .slice a6 C.length c6] 29)).cell? ⟨w.heap.size, 2, none⟩ = some (.slice a3 C.length c3) := by simp [go_sem]
 have f0 : ((w.alloc (.cells #[.slice a1 A.length c1, .slice a2 B.length c2, .slice a3 C.length c3] 29)).alloc (.cells #[.slice a4 A.length c4, .slice a5 B.length c5, .slice a6 C.length c6] 29)).cell? ⟨w.heap.size + 1, 0, none⟩ = some (.slice a4 A.length c4) := by simp [go_sem]
 have f1 : ((w.alloc (.cells #[.slice a1 A.length c1, .slice a2 B.length c2, .slice a3 C.length c3] 29)).alloc (.cells #[.slice a4 A.length c4, .slice a5 B.length c5, .slice a6 C.length c6] 29)).cell? ⟨w.heap.size + 1, 1, none⟩ = some (.slice a5 B.length c5) := by simp [go_sem]
 have f2 : ((w.alloc (.cells #[.slice a1 A.length c1, .slice a2 B.length c2, .slice a3 C.length c3] 29)).alloc (.cells #[.slice a4 A.length c4, .slice a5 B.length c5, .slice a6 C.length c6] 29)).cell? ⟨w.heap.size + 1, 2, none⟩ = some (.slice a6 C.length c6) := by simp [go_sem]
 go_wp2_with fail
 refine (kA _ hA hA').mono ?_; rintro e w1 ⟨rfl, hb1⟩
 have hA := hA.below hb1; have hB := hB.below hb1; have hC := hC.below hb1; have hA' := hA'.below hb1; have hB' := hB'.below hb1; have hC' := hC'.below hb1; have e0 := kept hb1 e0; have e1 := kept hb1 e1; have e2 := kept hb1 e2; have f0 := kept hb1 f0; have f1 := kept hb1 f1; have f2 := kept hb1 f2
 go_wp2_with fail
 refine (kB _ hB hB').mono ?_; rintro e w2 ⟨rfl, hb2⟩
 have hA := hA.below hb2; have hB := hB.below hb2; have hC := hC.below hb2; have hA' := hA'.below hb2; have hB' := hB'.below hb2; have hC' := hC'.below hb2; have e0 := kept hb2 e0; have e1 := kept hb2 e1; have e2 := kept hb2 e2; have f0 := kept hb2 f0; have f1 := kept hb2 f1; have f2 := kept hb2 f2
 go_wp2_with fail
 refine (kC _ hC hC').mono ?_; rintro e w3 ⟨rfl, hb3⟩
 have hA := hA.below hb3; have hB := hB.below hb3; have hC := hC.below hb3; have hA' := hA'.below hb3; have hB' := hB'.below hb3; have hC' := hC'.below hb3; have e0 := kept hb3 e0; have e1 := kept hb3 e1; have e2 := kept hb3 e2; have f0 := kept hb3 f0; have f1 := kept hb3 f1; have f2 := kept hb3 f2
 go_wp2_with fail
 go_ret
 exact ⟨rfl, bwT⟩
end
end Go.Proofs.YteaaepbnoiecoaaGreat
