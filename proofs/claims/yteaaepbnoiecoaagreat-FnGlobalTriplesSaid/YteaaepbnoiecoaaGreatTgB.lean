import Derived.Test.YteaaepbnoiecoaaGreatJaw
namespace Go.Proofs.YteaaepbnoiecoaaGreat
open Go.RowKit
def isoG (p : Int) (dg : List Int) (M : List (List Int)) (i k : Nat) : Bool := (dotK p dg (colL M i) (colL M k) - if i = k then dg.getD i 0 else 0) % p == 0
def isoR (p : Int) (dg : List Int) (M : List (List Int)) (i k : Nat) : Bool := dotD dg (colL M i) (colL M k) % p == if i = k then dg.getD i 0 else 0
set_option maxHeartbeats 4000000 in
theorem keeps_c {p : Int} {s m : Value} {st : List Int} {M : List (List Int)} {w : World} (hd : Dok p st) (hs : El w s st) (hr : Re w m M) (hM : matB p (sz st.length) M = true) :
  Calls Tryz.prog 19 #[.agg #[.int .i64 p, s], m] w fun e w' => e = .returned (.bool (isoK p (diagF p st) M)) /\ Below w.heap.size w w' := by
 have hp1 := hd.hp.lo; have hp2 := hd.hp.hi; have hl3 := hd.hl; have hsz := sz_le hd
 obtain ⟨hMl, hMw⟩ := matB_iff.1 hM
 obtain ⟨a0, c0, rfl, _⟩ := id hs.op
 obtain ⟨bm, om, cm, rfl, hT⟩ := Re.tb hr hMl (by omega) (fun r h => (hMw r h).1)
 have hAb : ∀ i k, 0 <= (M.getD i []).getD k 0 /\ (M.getD i []).getD k 0 < p := fun i k => by
  by_cases h : i < M.length
  ·exact (hMw _ (get_mem h)).2.g0 (by omega) k
  ·rw [show M.getD i [] = [] by rw [List.getD_eq_getElem?_getD, List.getElem?_eq_none (by omega)]; rfl]
   simp; omega
 have hDb : ∀ i, 0 <= (diagF p st).getD i 0 /\ (diagF p st).getD i 0 < p := fun i => (diagF_fp (p := p) (st := st) (by omega)).g0 (by omega) i
 have hcl : ∀ i, (colL M i).length = sz st.length := fun i => (colL_ev (by omega) hM i).1
 have hca : ∀ i r, r < sz st.length -> (colL M i).getD r 0 = (M.getD r []).getD i 0 := fun i r h => by
  rw [colL_at (by omega), List.getD_eq_getElem?_getD (l := M), List.getElem?_eq_getElem (by omega)]; rfl
 have hdl := diagF_len (p := p) (st := st)
 have hG : ∀ i k, isoG p (diagF p st) M i k = ((sumF (fun r => (M.getD r []).getD i 0 * (M.getD r []).getD k 0 % p * (diagF p st).getD r 0) (sz st.length) - if i = k then (diagF p st).getD i 0 else 0) % p == 0) := fun i k => by
  unfold isoG
  rw [dotK_sum hdl (hcl i) (hcl k), sumF_congr (fun r hr => by rw [hca i r hr, hca k r hr])]
 have hK : isoK p (diagF p st) M = ((List.range (sz st.length)).all fun i => (List.range (sz st.length)).all (isoG p (diagF p st) M i)) := by unfold isoK; rw [hMl]; rfl
 obtain ⟨G, hG_⟩ : ∃ G, G = isoG p (diagF p st) M := ⟨_, rfl⟩
 simp only [<- hG_] at hG hK
 obtain ⟨A, hA⟩ : ∃ A : Nat -> Nat -> Int, A = fun i k => (M.getD i []).getD k 0 := ⟨_, rfl⟩
 have hAe : ∀ i k, (M.getD i []).getD k 0 = A i k := fun i k => by rw [hA]
 obtain ⟨D, hD_⟩ : ∃ D : Nat -> Int, D = fun i => (diagF p st).getD i 0 := ⟨_, rfl⟩
 have hDe : ∀ i, (diagF p st).getD i 0 = D i := fun i => by rw [hD_]
 simp only [hAe, hDe] at hG hAb hDb
 have hT := hT.congr (G := A) (fun i _ k _ => hAe i k)
 obtain ⟨n, hn⟩ : ∃ n, n = sz st.length := ⟨_, rfl⟩
 simp only [<- hn] at hsz hG hK hT hdl ⊢
 have HG := Lib.hid hG; have HK := Lib.hid hK; have HDL := Lib.hid hdl; have HDE := Lib.hid hDe; have HAB := Lib.hid hAb; have HDB := Lib.hid hDb
 clear hn hG hK hcl hca hdl hAe hDe hA hD_ hG_ hMl hAb hDb
 go_enter Tryz.func19, Tryz.ntmps19
 have hb0 : Below w.heap.size w (w.alloc (.cells #[.int .i64 p, .slice a0 st.length c0] 26)) := bwT
 have hs := hs.below hb0; have hT := hT.below hb0
 have d0 : (w.alloc (.cells #[.int .i64 p, .slice a0 st.length c0] 26)).cell? ⟨w.heap.size, 0, none⟩ = some (.int .i64 p) := by simp [go_sem]
 have d1 : (w.alloc (.cells #[.int .i64 p, .slice a0 st.length c0] 26)).cell? ⟨w.heap.size, 1, none⟩ = some (.slice a0 st.length c0) := by simp [go_sem]
 go_wp2_with fail
 refine (diag_c hd hs).mono ?_; rintro e w1 ⟨vd, rfl, hD, hb1⟩
 have hs := hs.below hb1; have hT := hT.below hb1; have d0 := kept hb1 d0; have d1 := kept hb1 d1
 obtain ⟨gd, kd, rfl, hDo⟩ := id hD
 rw [HDL.out] at hDo ⊢
 have hDc : ∀ i, i < n -> w1.cell? ⟨gd, i, none⟩ = some (.int .i64 (D i)) := fun i hi => by
  have := hDo.hold hi
  rw [HDE.out] at this
  exact this
 have HDC := Lib.hid hDc
 have hbx : Below w.heap.size w w1 := bwT
 clear hD hDo hDc
 go_wp2_with fail
 go_loopw [14] (fun i wr => ∃ k : Nat, k <= n /\ i = .int .i64 k /\ ((List.range k).all fun i => (List.range n).all (G i)) = true /\ Below w1.heap.size w1 wr) (fun i _ => n - (intOf i).toNat)
 case atStart => exact ⟨0, Nat.zero_le _, rfl, rfl, Below.refl _ _⟩
 case round =>
  obtain ⟨k, hk, rfl, hall, hb⟩ := hrel
  by_cases hlt : k < n
  ·have HALL := Lib.hid hall; clear hall
   generalize wr = wo at *
   go_wp2_with fail
   go_loopw [19] (fun i wr => ∃ j : Nat, j <= n /\ i = .int .i64 j /\ (List.range j).all (G k) = true /\ Below wo.heap.size wo wr) (fun i _ => n - (intOf i).toNat)
   case atStart => exact ⟨0, Nat.zero_le _, rfl, rfl, Below.refl _ _⟩
   case round =>
    obtain ⟨j, hj, rfl, hal2, hb5⟩ := hrel
    by_cases hlt2 : j < n
    ·have HAL2 := Lib.hid hal2; clear hal2
     obtain ⟨f, hf⟩ : ∃ f : Nat -> Int, f = fun r => A r k * A r j % p * D r := ⟨_, rfl⟩
     have hfb : ∀ r, 0 <= f r /\ f r <= 169 := fun r => by
      rw [hf]
      have h1 := mod_fp (p := p) (x := A r k * A r j) (by omega)
      have h2 := HDB.out r
      exact mul_b (by omega) (by omega)
     have hg := HG.out k j
     rw [<- hf] at hg
     have hfe : ∀ r, A r k * A r j % p * D r = f r := fun r => by rw [hf]
     have HF := Lib.hid hfe; have HFB := Lib.hid hfb; have HGG := Lib.hid hg
     clear hf hfe hfb hg
     generalize wr = wp at *
     go_wp2_with fail
     go_loopw [8, 24] (fun o i wr => ∃ r : Nat, r <= n /\ i = .int .i64 r /\ o = .int .i64 (sumF f r) /\ Below wp.heap.size wp wr) (fun _ i _ => n - (intOf i).toNat)
     case atStart => exact ⟨0, Nat.zero_le _, rfl, rfl, Below.refl _ _⟩
     case round =>
      obtain ⟨r, hr, rfl, rfl, hb6⟩ := hrel
      have hbc := bwC hb (bwC hb5 hb6)
      have hT := hT.below hbc; have d0 := kept hbc d0; have d1 := kept hbc d1
      have hsb := sumF_bd (f := f) (B := 169) (n := r) (fun x _ => HFB.out x)
      by_cases hlt3 : r < n
      ·obtain ⟨b2, o2, c2, hcr, hcA⟩ := hT r hlt3
       have hc1 := hcA k hlt; have hc2 := hcA j hlt2
       have hc3 := kept hbc (HDC.out r hlt3)
       have hs1 : Hid (sumF f (r + 1) = sumF f r + A r k * A r j % p * D r) := Lib.hid (by show sumF f r + f r = _; rw [HF.out])
       have b1 := HAB.out r k; have b2_ := HAB.out r j; have b3 := HDB.out r
       obtain ⟨x, hx⟩ : ∃ x, x = A r k := ⟨_, rfl⟩
       obtain ⟨y, hy⟩ : ∃ y, y = A r j := ⟨_, rfl⟩
       obtain ⟨z, hz⟩ : ∃ z, z = D r := ⟨_, rfl⟩
       obtain ⟨S, hS⟩ : ∃ S, S = sumF f r := ⟨_, rfl⟩
       rw [<- hx] at hc1 b1 hs1; rw [<- hy] at hc2 b2_ hs1; rw [<- hz] at hc3 b3 hs1; rw [<- hS] at hsb hs1 ⊢
       have m1 := mulb (k := x) (y := y) (A := 13) (B := 13) (by omega) (by omega) (by omega) (by omega)
       have q1 := mod_fp (p := p) (x := x * y) (by omega)
       have m2 := mulb (k := x * y % p) (y := z) (A := 13) (B := 13) (by omega) (by omega) (by omega) (by omega)
       clear hT hcA hx hy hz hS
       go_wp2_with fail
       go_wp2_with fail
       refine region_flowP [(2, 1, []), (18, 1, [2]), (18, 6, [17, 9, 8]), (18, 9, [17]), (18, 13, [17, 16, 15]), (18, 16, [17])] [(false, [(0, 0), (1, 1), (3, 0), (4, 0), (5, 0), (6, 1), (7, 0), (8, 0), (9, 1), (10, 0), (11, 0), (12, 0), (13, 1), (14, 0), (15, 0), (16, 1), (17, 0), (19, 0), (20, 0), (21, 0), (22, 1), (2, 5)]), (false, [(18, 5)]), (false, [(23, 0), (24, 0), (25, 0)])] (by kernel_rfl) ?_
       refine norm_K fun K hK => ?_
       change wpList _ _ _ [_, _, _, _, _, _, _, _, _, _, _, _, _, _, _, _, _, _, _, _, _, _] _ _
       have hb21 : Below wr.heap.size wr wr.drew := bwT
       have d0 := kept hb21 d0; have d1 := kept hb21 d1; have hcr := kept hb21 hcr; have hc1 := kept hb21 hc1; have hc2 := kept hb21 hc2; have hc3 := kept hb21 hc3
       generalize wr.drew = wq at *
       go_wp2_with fail
       refine (dfield_c).mono ?_; rintro e w22 ⟨rfl, hb22⟩
       have d0 := kept hb22 d0; have d1 := kept hb22 d1; have hcr := kept hb22 hcr; have hc1 := kept hb22 hc1; have hc2 := kept hb22 hc2; have hc3 := kept hb22 hc3
       go_wp2_with fail
       have hz0 : Below wq.heap.size wq w22 := bwT
       first | (refine hK _ _ ⟨hz0, ?_⟩; clear hK K) | refine ⟨hz0, ?_⟩
       clear hz0
       refine norm_K fun K hK => ?_
       change wpList _ _ _ [_] _ _
       go_wp2_with fail
       refine (num_c (by omega) (by omega)).mono ?_; rintro e w23 ⟨rfl, rfl⟩
       go_wp2_with fail
       have hz1 : Below wq.heap.size wq w22 := bwT
       first | (refine hK _ _ ⟨hz1, ?_⟩; clear hK K) | refine ⟨hz1, ?_⟩
       clear hz1
       refine norm_K fun K hK => ?_
       change wpList _ _ _ [_, _, _] _ _
       go_wp2_with fail
       first | (refine hK _ _ ⟨rfl, ?_⟩; clear hK K) | refine ⟨rfl, ?_⟩
       have hby : Below wr.heap.size wr w22 := bwT
       go_wp2_with fail
       go_roundw
       case rel => exact ⟨r + 1, by omega, by go_num, by rw [hs1.out], bwC hb6 hby⟩
       case measure => simp [intOf]; omega
      ·obtain rfl : r = n := by omega
       obtain ⟨S, hS⟩ : ∃ S, S = sumF f r := ⟨_, rfl⟩
       have hg := HGG.out
       rw [<- hS] at hsb hg ⊢
       have hck := kept hbc (HDC.out k hlt)
       have b3 := HDB.out k
       obtain ⟨z, hz⟩ : ∃ z, z = D k := ⟨_, rfl⟩
       rw [<- hz] at hck b3 hg
       obtain ⟨b, hb_⟩ : ∃ b, b = G k j := ⟨_, rfl⟩
       rw [<- hb_] at hg
       have HB := Lib.hid hb_
       clear hS hz hb_ hT
       by_cases hkj : k = j
       ·subst hkj
        rw [if_pos rfl] at hg
        have q1 := mod_fp (p := p) (x := S - z) (by omega)
        obtain ⟨q, hq⟩ : ∃ q, q = (S - z) % p := ⟨_, rfl⟩
        rw [<- hq] at hg q1
        have HQ := Lib.hid hq; have HG3 := Lib.hid hg
        clear hq hg
        go_wp2_with fail
        refine dfield_c.mono ?_; rintro e w7 ⟨rfl, hb7⟩
        go_wp2_with fail
        refine (num_c (by omega) (by omega)).mono ?_; rintro e w8 ⟨rfl, rfl⟩
        rw [<- HQ.out]
        cases b
        ·have hne : (q != 0) = true := by have := HG3.out; rw [bne_iff_ne]; intro e; rw [e] at this; cases this
         go_wp2_with fail
         go_ret
         exact ⟨by rw [HK.out, all2_no hlt hlt HB.out.symm]; rfl, bwC hbx (bwC hbc hb7)⟩
        ·have hq0 : q = 0 := by have := HG3.out; simpa using this.symm
         have hne : (q != 0) = false := by rw [hq0]; rfl
         clear hq0
         go_wp2_with fail
         go_roundw
         case rel => exact ⟨k + 1, by omega, by go_num, by rw [all_succ, HAL2.out, <- HB.out]; rfl, bwC hb5 (bwC hb6 hb7)⟩
         case measure => simp [intOf]; omega
       ·have hke : ((k : Int) == (j : Int)) = false := by rw [beq_eq_false_iff_ne]; omega
        rw [if_neg hkj, Int.sub_zero] at hg
        have q1 := mod_fp (p := p) (x := S) (by omega)
        obtain ⟨q, hq⟩ : ∃ q, q = S % p := ⟨_, rfl⟩
        rw [<- hq] at hg q1
        have HQ := Lib.hid hq; have HG3 := Lib.hid hg
        clear hq hg
        go_wp2_with fail
        refine dfield_c.mono ?_; rintro e w7 ⟨rfl, hb7⟩
        go_wp2_with fail
        refine (num_c (by omega) (by omega)).mono ?_; rintro e w8 ⟨rfl, rfl⟩
        rw [<- HQ.out]
        cases b
        ·have hne : (q != 0) = true := by have := HG3.out; rw [bne_iff_ne]; intro e; rw [e] at this; cases this
         go_wp2_with fail
         go_ret
         exact ⟨by rw [HK.out, all2_no hlt hlt2 HB.out.symm]; rfl, bwC hbx (bwC hbc hb7)⟩
        ·have hq0 : q = 0 := by have := HG3.out; simpa using this.symm
         have hne : (q != 0) = false := by rw [hq0]; rfl
         clear hq0
         go_wp2_with fail
         go_roundw
         case rel => exact ⟨j + 1, by omega, by go_num, by rw [all_succ, HAL2.out, <- HB.out]; rfl, bwC hb5 (bwC hb6 hb7)⟩
         case measure => simp [intOf]; omega
    ·obtain rfl : j = n := by omega
     have HAL2 := Lib.hid hal2; clear hal2
     go_wp2_with fail
     go_roundw
     case rel => exact ⟨k + 1, by omega, by go_num, by rw [all_succ, HALL.out, HAL2.out]; rfl, bwC hb hb5⟩
     case measure => simp [intOf]; omega
  ·obtain rfl : k = n := by omega
   have HALL := Lib.hid hall; clear hall
   go_wp2_with fail
   go_ret
   exact ⟨by rw [HK.out, HALL.out]; rfl, bwC hbx hb⟩
set_option maxHeartbeats 1000000 in
theorem spair_c {p : Int} {s x y : Value} {st xs ys : List Int} {w : World} (hd : Dok p st) (hs : El w s st) (hx : El w x xs) (hy : El w y ys) (ex : Ev p (sz st.length) xs) (ey : Ev p (sz st.length) ys) :
  Calls Tryz.prog 98 #[.agg #[.int .i64 p, s], x, y] w fun e w' => e = .returned (.int .i64 (dotD (diagF p st) xs ys % p)) /\ Below w.heap.size w w' := by
 have hp1 := hd.hp.lo; have hp2 := hd.hp.hi; have hl3 := hd.hl; have hsz := sz_le hd
 have hdl := diagF_len (p := p) (st := st)
 have hxl := ex.1
 have hyl := ey.1
 rw [dotD_sum hdl hxl hyl]
 have hXb : ∀ i, 0 <= xs.getD i 0 /\ xs.getD i 0 < p := fun i => ex.2.g0 (by omega) i
 have hYb : ∀ i, 0 <= ys.getD i 0 /\ ys.getD i 0 < p := fun i => ey.2.g0 (by omega) i
 have hDb : ∀ i, 0 <= (diagF p st).getD i 0 /\ (diagF p st).getD i 0 < p := fun i => (diagF_fp (p := p) (st := st) (by omega)).g0 (by omega) i
 obtain ⟨b, off, c2, rfl, h1, h2, hA⟩ := hx.op1 (by omega)
 obtain ⟨b', off', c2', rfl, h1', h2', hA'⟩ := hy.op1 (by omega)
 obtain ⟨a, c, rfl, _⟩ := id hs.op
 obtain ⟨n, hn⟩ : ∃ n, n = sz st.length := ⟨_, rfl⟩
 rw [<- hn] at hdl hxl hyl hsz ⊢
 rw [hxl] at h1 ⊢
 rw [hyl] at h1' ⊢
 have HXB := Lib.hid hXb; have HYB := Lib.hid hYb; have HDB := Lib.hid hDb; have HN := Lib.hid hn; have HDL := Lib.hid hdl; have HXL := Lib.hid hxl; have HYL := Lib.hid hyl
 clear hXb hYb hDb hn hdl hxl hyl hx hy ex ey
 obtain ⟨f, hf⟩ : ∃ f : Nat -> Int, f = fun r => (diagF p st).getD r 0 * xs.getD r 0 * ys.getD r 0 := ⟨_, rfl⟩
 have hfe : ∀ r, (diagF p st).getD r 0 * xs.getD r 0 * ys.getD r 0 = f r := fun r => by rw [hf]
 rw [<- hf]
 have HF := Lib.hid hfe
 clear hf hfe
 go_enter Tryz.func98, Tryz.ntmps98
 have hb0 : Below w.heap.size w (w.alloc (.cells #[.int .i64 p, .slice a st.length c] 26)) := bwT
 have hs := hs.below hb0; have hA := hA.below hb0; have hA' := hA'.below hb0
 have d0 : (w.alloc (.cells #[.int .i64 p, .slice a st.length c] 26)).cell? ⟨w.heap.size, 0, none⟩ = some (.int .i64 p) := by simp [go_sem]
 have d1 : (w.alloc (.cells #[.int .i64 p, .slice a st.length c] 26)).cell? ⟨w.heap.size, 1, none⟩ = some (.slice a st.length c) := by simp [go_sem]
 go_wp2_with fail
 refine (sdiag_c hd hs).mono ?_; rintro e w1 ⟨vd, rfl, hD, hb1⟩
 have hs := hs.below hb1; have hA := hA.below hb1; have hA' := hA'.below hb1; have d0 := kept hb1 d0; have d1 := kept hb1 d1
 obtain ⟨gd, kd, rfl, hDo⟩ := id hD
 rw [HDL.out] at hDo ⊢
 have hW : Below w.heap.size w w1 := bwT
 go_wp2_with fail
 go_loopw [8, 9] (fun o i wr => ∃ k : Nat, k <= n /\ i = .int .i64 k /\ o = .int .i64 (sumF f k % p) /\ Below w1.heap.size w1 wr) (fun _ i _ => n - (intOf i).toNat)
 case atStart => exact ⟨0, Nat.zero_le _, rfl, by simp [sumF], Below.refl _ _⟩
 case round =>
  obtain ⟨k, hk, rfl, rfl, hb⟩ := hrel
  have d0 := kept hb d0; have d1 := kept hb d1
  have hAr := hA.below hb; have hAr' := hA'.below hb; have hvr := hDo.below hb
  have hq1 := mod_fp (p := p) (x := sumF f k) (by omega)
  by_cases hlt : k < n
  ·have hc := hAr k (by have := HXL.out; omega)
   have hc' := hAr' k (by have := HYL.out; omega)
   have hc2 := hvr.hold hlt
   have b1 := HXB.out k; have b1' := HYB.out k
   have b2 := HDB.out k
   have hst : Hid (sumF f (k + 1) = sumF f k + (diagF p st).getD k 0 * xs.getD k 0 * ys.getD k 0) := Lib.hid (by show sumF f k + f k = _; rw [HF.out])
   obtain ⟨u, hu⟩ : ∃ u, u = xs.getD k 0 := ⟨_, rfl⟩
   obtain ⟨v, hv⟩ : ∃ v, v = ys.getD k 0 := ⟨_, rfl⟩
   obtain ⟨z, hz⟩ : ∃ z, z = (diagF p st).getD k 0 := ⟨_, rfl⟩
   rw [<- hu] at hc b1 hst
   rw [<- hv] at hc' b1' hst
   rw [<- hz] at hc2 b2 hst
   obtain ⟨q, hq⟩ : ∃ q, q = sumF f k := ⟨_, rfl⟩
   rw [<- hq] at hst hq1 ⊢
   have m1 := mulb (k := z) (y := u) (A := 13) (B := 13) (by omega) (by omega) (by omega) (by omega)
   have m2 := mulb (k := z * u) (y := v) (A := 169) (B := 13) (by omega) (by omega) (by omega) (by omega)
   clear hu hv hz hq hAr hAr' hvr
   go_wp2_with fail
   go_wp2_with fail
   refine region_flow [(false, [(0, 0), (1, 1), (2, 0), (3, 0), (4, 0), (5, 0), (6, 1), (7, 0), (8, 0), (9, 0), (10, 1), (11, 0), (12, 0), (13, 0), (14, 0), (15, 1), (16, 0), (17, 0), (18, 4), (19, 0)])] (by kernel_rfl) ?_
   refine norm_K fun K hK => ?_
   change wpList _ _ _ [_, _, _, _, _, _, _, _, _, _, _, _, _, _, _, _, _, _, _, _] _ _
   have hb21 : Below wr.heap.size wr wr.drew := bwT
   have d0 := kept hb21 d0; have d1 := kept hb21 d1; have hc := kept hb21 hc; have hc' := kept hb21 hc'; have hc2 := kept hb21 hc2
   generalize wr.drew = wq at *
   go_wp2_with fail
   refine (smod_c (by omega) (by omega)).mono ?_; rintro e w22 ⟨rfl, rfl⟩
   go_wp2_with fail
   first | (refine hK _ _ ⟨rfl, ?_⟩; clear hK K) | refine ⟨rfl, ?_⟩
   have hby : Below wr.heap.size wr wq := hb21
   go_wp2_with fail
   go_roundw
   case rel => exact ⟨k + 1, by omega, by go_num, by rw [hst.out], bwC hb hby⟩
   case measure => simp [intOf]; omega
  ·obtain rfl : k = n := by omega
   go_wp2_with fail
   go_ret
   exact ⟨rfl, bwC hW hb⟩
set_option maxHeartbeats 2000000 in
theorem siso_c {p : Int} {s m : Value} {st : List Int} {M : List (List Int)} {w : World} (hd : Dok p st) (hs : El w s st) (hr : Re w m M) (hM : matB p (sz st.length) M = true) :
  Calls Tryz.prog 60 #[.agg #[.int .i64 p, s], m] w fun e w' => e = .returned (.bool (isoB p (diagF p st) M)) /\ Below w.heap.size w w' := by
 have hp1 := hd.hp.lo; have hp2 := hd.hp.hi; have hl3 := hd.hl; have hsz := sz_le hd
 obtain ⟨hMl, hMw⟩ := matB_iff.1 hM
 obtain ⟨a0, c0, rfl, _⟩ := id hs.op
 obtain ⟨ar, cr, rfl, _⟩ := id hr
 have hcol := fun i => colL_ev (by omega : 1 <= p) hM i
 have hdl := diagF_len (p := p) (st := st)
 have hDb : ∀ i, 0 <= (diagF p st).getD i 0 /\ (diagF p st).getD i 0 < p := fun i => (diagF_fp (p := p) (st := st) (by omega)).g0 (by omega) i
 have hG : ∀ i k, isoR p (diagF p st) M i k = (dotD (diagF p st) (colL M i) (colL M k) % p == if i = k then (diagF p st).getD i 0 else 0) := fun _ _ => rfl
 have hB : isoB p (diagF p st) M = ((List.range (sz st.length)).all fun i => (List.range (i + 1)).all (isoR p (diagF p st) M i)) := by unfold isoB; rw [hMl]; rfl
 have hno : ∀ i k, i < sz st.length -> k < i + 1 -> isoR p (diagF p st) M i k = false -> isoB p (diagF p st) M = false := fun i k hi hk h => by
  rw [hB]
  exact List.all_eq_false.2 ⟨i, List.mem_range.2 hi, by rw [List.all_eq_false.2 ⟨k, List.mem_range.2 hk, by rw [h]; decide⟩]; decide⟩
 obtain ⟨G, hG_⟩ : ∃ G, G = isoR p (diagF p st) M := ⟨_, rfl⟩
 simp only [<- hG_] at hG hB hno
 have hs8 : sz st.length <= 8 := (sz_le hd).2
 have hMs : M.length = sz st.length := hMl
 obtain ⟨n, hn⟩ : ∃ n, n = sz st.length := ⟨_, rfl⟩
 simp only [<- hn] at hsz hB hno hdl hMs hMw
 have HN := Lib.hid hn; have HG := Lib.hid hG; have HB_ := Lib.hid hB; have HNO := Lib.hid hno; have HDL := Lib.hid hdl; have HDB := Lib.hid hDb; have HCOL := Lib.hid hcol; have HML := Lib.hid hMs
 have hMb : M.length <= 8 := by omega
 clear hn hG hB hno hdl hDb hcol hG_ hMl hMs
 go_enter Tryz.func60, Tryz.ntmps60
 have hb0 : Below w.heap.size w (w.alloc (.cells #[.int .i64 p, .slice a0 st.length c0] 26)) := bwT
 have hs := hs.below hb0; have hr := hr.below hb0
 have d0 : (w.alloc (.cells #[.int .i64 p, .slice a0 st.length c0] 26)).cell? ⟨w.heap.size, 0, none⟩ = some (.int .i64 p) := by simp [go_sem]
 have d1 : (w.alloc (.cells #[.int .i64 p, .slice a0 st.length c0] 26)).cell? ⟨w.heap.size, 1, none⟩ = some (.slice a0 st.length c0) := by simp [go_sem]
 go_wp2_with fail
 refine (sdiag_c hd hs).mono ?_; rintro e w1 ⟨vd, rfl, hD, hb1⟩
 have hs := hs.below hb1; have hr := hr.below hb1; have d0 := kept hb1 d0; have d1 := kept hb1 d1
 obtain ⟨gd, kd, rfl, hDo⟩ := id hD
 rw [HDL.out] at hDo ⊢
 have hbx : Below w.heap.size w w1 := bwT
 clear hD
 go_wp2_with fail
 go_loopw [6] (fun i wr => ∃ k : Nat, k <= M.length /\ i = .int .i64 k /\ ((List.range k).all fun i => (List.range (i + 1)).all (G i)) = true /\ Below w1.heap.size w1 wr) (fun i _ => M.length - (intOf i).toNat)
 case atStart => exact ⟨0, Nat.zero_le _, rfl, rfl, Below.refl _ _⟩
 case round =>
  obtain ⟨k, hk, rfl, hall, hb⟩ := hrel
  by_cases hlt : k < M.length
  ·have hltn : k < n := by have := HML.out; omega
   have HALL := Lib.hid hall; clear hall
   have hs := hs.below hb; have hr := hr.below hb; have d0 := kept hb d0; have d1 := kept hb d1
   have hck := kept hb (hDo.hold hltn)
   have b3 := HDB.out k
   obtain ⟨z, hz⟩ : ∃ z, z = (diagF p st).getD k 0 := ⟨_, rfl⟩
   rw [<- hz] at hck b3
   have HZ := Lib.hid hz; clear hz
   generalize wr = wo at *
   go_wp2_with fail
   go_loopw [7] (fun i wr => ∃ j : Nat, j <= k + 1 /\ i = .int .i64 j /\ (List.range j).all (G k) = true /\ Below wo.heap.size wo wr) (fun i _ => k + 1 - (intOf i).toNat)
   case atStart => exact ⟨0, Nat.zero_le _, rfl, rfl, Below.refl _ _⟩
   case round =>
    obtain ⟨j, hj, rfl, hal2, hb5⟩ := hrel
    by_cases hlt2 : j < k + 1
    ·have hle : j <= k := by omega
     have HAL2 := Lib.hid hal2; clear hal2
     have hs := hs.below hb5; have hr := hr.below hb5; have d0 := kept hb5 d0; have d1 := kept hb5 d1; have hck := kept hb5 hck
     have hcl := fun i (hi : i < n) (r : List Int) (h : r ∈ M) => show i < r.length by have := (hMw r h).1; omega
     have HCL := Lib.hid hcl; clear hcl
     have hg := HG.out k j
     rw [<- HZ.out] at hg
     obtain ⟨b, hb_⟩ : ∃ b, b = G k j := ⟨_, rfl⟩
     rw [<- hb_] at hg
     obtain ⟨t, ht⟩ : ∃ t, t = dotD (diagF p st) (colL M k) (colL M j) % p := ⟨_, rfl⟩
     rw [<- ht] at hg
     have HB := Lib.hid hb_; have HT := Lib.hid ht
     clear hb_ ht
     rcases Nat.eq_or_lt_of_le hle with hjk | hjk
     ·subst hjk
      rw [if_pos rfl] at hg
      have hcmp : (t != z) = !b := by rw [hg]; rfl
      have HC := Lib.hid hcmp; clear hcmp hg
      go_wp2_with fail
      go_wp2_with fail
      refine region_flow [(false, [(0, 1), (1, 0), (2, 0), (4, 0), (5, 0), (8, 0), (3, 5)]), (false, [(6, 5)]), (false, [(7, 4), (9, 0)])] (by kernel_rfl) ?_
      refine norm_K fun K hK => ?_
      change wpList _ _ _ [_, _, _, _, _, _, _] _ _
      have hb21 : Below wr.heap.size wr wr.drew := bwT
      have hs := hs.below hb21; have hr := hr.below hb21; have d0 := kept hb21 d0; have d1 := kept hb21 d1
      generalize wr.drew = wq at *
      go_wp2_with fail
      refine (scolumn_c hr (HCL.out j (by omega)) (by omega)).mono ?_; rintro e w22 ⟨v3, rfl, h3, hb22⟩
      have hs := hs.below hb22; have hr := hr.below hb22; have d0 := kept hb22 d0; have d1 := kept hb22 d1
      go_wp2_with fail
      have hz0 : Below wq.heap.size wq w22 := bwT
      first | (refine hK _ _ ⟨hz0, ?_⟩; clear hK K) | refine ⟨hz0, ?_⟩
      clear hz0
      refine norm_K fun K hK => ?_
      change wpList _ _ _ [_] _ _
      go_wp2_with fail
      refine (scolumn_c hr (HCL.out j (by omega)) (by omega)).mono ?_; rintro e w23 ⟨v4, rfl, h4, hb23⟩
      have hs := hs.below hb23; have hr := hr.below hb23; have d0 := kept hb23 d0; have d1 := kept hb23 d1; have h3 := h3.below hb23
      go_wp2_with fail
      have hz1 : Below wq.heap.size wq w23 := bwT
      first | (refine hK _ _ ⟨hz1, ?_⟩; clear hK K) | refine ⟨hz1, ?_⟩
      clear hz1
      refine norm_K fun K hK => ?_
      change wpList _ _ _ [_, _] _ _
      go_wp2_with fail
      refine (spair_c hd hs h3.el h4.el (HCOL.out j) (HCOL.out j)).mono ?_; rintro e w24 ⟨rfl, hb24⟩
      have hs := hs.below hb24; have hr := hr.below hb24; have d0 := kept hb24 d0; have d1 := kept hb24 d1; have h3 := h3.below hb24; have h4 := h4.below hb24
      rw [<- HT.out]
      have hbz : Below wr.heap.size wr w24 := bwT
      cases b
      ·have hne : (t != z) = true := HC.out
       go_wp2_with fail
       first | (refine hK _ _ ⟨rfl, ?_⟩; clear hK K) | refine ⟨rfl, ?_⟩
       go_wp2_with fail
       go_ret
       exact ⟨by rw [HNO.out j j hltn (by omega) HB.out.symm]; rfl, bwC hbx (bwC hb (bwC hb5 hbz))⟩
      ·have hne : (t != z) = false := HC.out
       go_wp2_with fail
       first | (refine hK _ _ ⟨rfl, ?_⟩; clear hK K) | refine ⟨rfl, ?_⟩
       go_wp2_with fail
       go_roundw
       case rel => exact ⟨j + 1, by omega, by go_num, by rw [all_succ, HAL2.out, <- HB.out]; rfl, bwC hb5 hbz⟩
       case measure => first | (simp [intOf]; done) | (simp [intOf]; omega)
     ·have hne0 : ¬ k = j := by omega
      rw [if_neg hne0] at hg
      have hke : ((k : Int) == (j : Int)) = false := by rw [beq_eq_false_iff_ne]; omega
      have hcmp : (t != 0) = !b := by rw [hg]; rfl
      have HC := Lib.hid hcmp; clear hcmp hg
      go_wp2_with fail
      go_wp2_with fail
      refine region_flow [(false, [(0, 1), (1, 0), (2, 0), (4, 0), (5, 0), (8, 0), (3, 5)]), (false, [(6, 5)]), (false, [(7, 4), (9, 0)])] (by kernel_rfl) ?_
      refine norm_K fun K hK => ?_
      change wpList _ _ _ [_, _, _, _, _, _, _] _ _
      have hb21 : Below wr.heap.size wr wr.drew := bwT
      have hs := hs.below hb21; have hr := hr.below hb21; have d0 := kept hb21 d0; have d1 := kept hb21 d1
      generalize wr.drew = wq at *
      go_wp2_with fail
      refine (scolumn_c hr (HCL.out k hltn) (by omega)).mono ?_; rintro e w22 ⟨v3, rfl, h3, hb22⟩
      have hs := hs.below hb22; have hr := hr.below hb22; have d0 := kept hb22 d0; have d1 := kept hb22 d1
      go_wp2_with fail
      have hz0 : Below wq.heap.size wq w22 := bwT
      first | (refine hK _ _ ⟨hz0, ?_⟩; clear hK K) | refine ⟨hz0, ?_⟩
      clear hz0
      refine norm_K fun K hK => ?_
      change wpList _ _ _ [_] _ _
      go_wp2_with fail
      refine (scolumn_c hr (HCL.out j (by omega)) (by omega)).mono ?_; rintro e w23 ⟨v4, rfl, h4, hb23⟩
      have hs := hs.below hb23; have hr := hr.below hb23; have d0 := kept hb23 d0; have d1 := kept hb23 d1; have h3 := h3.below hb23
      go_wp2_with fail
      have hz1 : Below wq.heap.size wq w23 := bwT
      first | (refine hK _ _ ⟨hz1, ?_⟩; clear hK K) | refine ⟨hz1, ?_⟩
      clear hz1
      refine norm_K fun K hK => ?_
      change wpList _ _ _ [_, _] _ _
      go_wp2_with fail
      refine (spair_c hd hs h3.el h4.el (HCOL.out k) (HCOL.out j)).mono ?_; rintro e w24 ⟨rfl, hb24⟩
      have hs := hs.below hb24; have hr := hr.below hb24; have d0 := kept hb24 d0; have d1 := kept hb24 d1; have h3 := h3.below hb24; have h4 := h4.below hb24
      rw [<- HT.out]
      have hbz : Below wr.heap.size wr w24 := bwT
      cases b
      ·have hne : (t != 0) = true := HC.out
       go_wp2_with fail
       first | (refine hK _ _ ⟨rfl, ?_⟩; clear hK K) | refine ⟨rfl, ?_⟩
       go_wp2_with fail
       go_ret
       exact ⟨by rw [HNO.out k j hltn hlt2 HB.out.symm]; rfl, bwC hbx (bwC hb (bwC hb5 hbz))⟩
      ·have hne : (t != 0) = false := HC.out
       go_wp2_with fail
       first | (refine hK _ _ ⟨rfl, ?_⟩; clear hK K) | refine ⟨rfl, ?_⟩
       go_wp2_with fail
       go_roundw
       case rel => exact ⟨j + 1, by omega, by go_num, by rw [all_succ, HAL2.out, <- HB.out]; rfl, bwC hb5 hbz⟩
       case measure => simp [intOf]; omega
    ·obtain rfl : j = k + 1 := by omega
     have HAL2 := Lib.hid hal2; clear hal2
     have hnl : ¬ ((k : Int) + 1 <= (k : Int)) := by omega
     go_wp2_with fail
     go_roundw
     case rel => exact ⟨k + 1, by omega, by go_num, by rw [all_succ, HALL.out, HAL2.out]; rfl, bwC hb hb5⟩
     case measure => simp [intOf]; omega
  ·obtain rfl : k = M.length := by omega
   rw [show M.length = n from HML.out] at hall
   have HALL := Lib.hid hall; clear hall
   go_wp2_with fail
   go_ret
   exact ⟨by rw [HB_.out, HALL.out]; rfl, bwC hbx hb⟩
theorem sform_c {p : Int} {s : Value} {st : List Int} {b off c i j k n : Nat} {w : World} (hd : Dok p st) (hs : El w s st) (hn : n = sz st.length) (hT : Tb w b off n (basF p st)) (hi : i < n) (hj : j < n) (hk : k < n) :
  Calls Tryz.prog 66 #[.agg #[.int .i64 p, s], .slice (some ⟨b, off, none⟩) n c, .int .i64 i, .int .i64 j, .int .i64 k] w fun e w' => e = .returned (.int .i64 (formF p st i j k)) /\ Below w.heap.size w w' := by
 have hp1 := hd.hp.lo; have hp2 := hd.hp.hi; have hl3 := hd.hl; have hsz := sz_le hd
 rw [<- hn] at hsz
 have HN := Lib.hid hn; clear hn
 obtain ⟨a0, c0, rfl, _⟩ := id hs.op
 have hbit := xor_bits i (by omega) j (by omega)
 obtain ⟨x, hx_⟩ : ∃ x, x = i ^^^ j := ⟨_, rfl⟩
 rw [<- hx_] at hbit
 by_cases hxk : x = k
 ·have hF : formF p st i j k = 2 * basF p st i j * basF p st k k % p := by unfold formF; rw [if_pos (by rw [<- hx_]; exact hxk)]
  have b1 := basF_fp (p := p) (st := st) (i := i) (j := j) hd
  have b2 := basF_fp (p := p) (st := st) (i := k) (j := k) hd
  obtain ⟨bi, oi, ci, hci, hti⟩ := hT i hi
  have hcj := hti j hj
  obtain ⟨bk, ok, ck, hck, htk⟩ := hT k hk
  have hckk := htk k hk
  rw [hF]
  obtain ⟨y, hy⟩ : ∃ y, y = basF p st i j := ⟨_, rfl⟩
  obtain ⟨z, hz⟩ : ∃ z, z = basF p st k k := ⟨_, rfl⟩
  rw [<- hy] at hcj b1 ⊢; rw [<- hz] at hckk b2 ⊢
  have m1 := mulb (k := 2 * y) (y := z) (A := 26) (B := 13) (by omega) (by omega) (by omega) (by omega)
  clear hF hx_ hy hz hti htk hT
  subst hxk
  have hne : ((x : Int) != (x : Int)) = false := by simp
  go_enter Tryz.func66, Tryz.ntmps66
  have hb0 : Below w.heap.size w (w.alloc (.cells #[.int .i64 p, .slice a0 st.length c0] 26)) := bwT
  have hs := hs.below hb0; have hci := kept hb0 hci; have hcj := kept hb0 hcj; have hck := kept hb0 hck; have hckk := kept hb0 hckk
  have d0 : (w.alloc (.cells #[.int .i64 p, .slice a0 st.length c0] 26)).cell? ⟨w.heap.size, 0, none⟩ = some (.int .i64 p) := by simp [go_sem]
  have d1 : (w.alloc (.cells #[.int .i64 p, .slice a0 st.length c0] 26)).cell? ⟨w.heap.size, 1, none⟩ = some (.slice a0 st.length c0) := by simp [go_sem]
  go_wp2_with fail
  refine region_flow [(false, [(0, 0), (1, 1), (2, 0), (3, 0), (4, 0), (5, 1), (6, 0), (7, 0), (8, 1), (9, 0), (10, 0), (11, 0), (12, 0), (13, 1), (14, 0), (15, 0), (16, 1), (17, 0), (18, 4), (19, 0)])] (by kernel_rfl) ?_
  refine norm_K fun K hK => ?_
  change wpList _ _ _ [_, _, _, _, _, _, _, _, _, _, _, _, _, _, _, _, _, _, _, _] _ _
  have hb1 : Below (w.alloc (.cells #[.int .i64 p, .slice a0 st.length c0] 26)).heap.size (w.alloc (.cells #[.int .i64 p, .slice a0 st.length c0] 26)) (w.alloc (.cells #[.int .i64 p, .slice a0 st.length c0] 26)).drew := bwT
  have hs := hs.below hb1; have hci := kept hb1 hci; have hcj := kept hb1 hcj; have hck := kept hb1 hck; have hckk := kept hb1 hckk; have d0 := kept hb1 d0; have d1 := kept hb1 d1
  generalize (w.alloc (.cells #[.int .i64 p, .slice a0 st.length c0] 26)).drew = wq at *
  go_wp2_with fail
  refine (smod_c (by omega) (by omega)).mono ?_; rintro e w2 ⟨rfl, rfl⟩
  go_wp2_with fail
  first | (refine hK _ _ ⟨rfl, ?_⟩; clear hK K) | refine ⟨rfl, ?_⟩
  go_wp2_with fail
  go_ret
  exact ⟨rfl, bwT⟩
 ·have hF : formF p st i j k = 0 := by unfold formF; rw [if_neg (by rw [<- hx_]; exact hxk)]
  rw [hF]
  clear hF hx_ hT
  have hne : ((x : Int) != (k : Int)) = true := by rw [bne_iff_ne]; omega
  go_enter Tryz.func66, Tryz.ntmps66
  go_wp2_with fail
  go_ret
  exact ⟨rfl, bwT⟩
end Go.Proofs.YteaaepbnoiecoaaGreat
