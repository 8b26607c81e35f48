import Derived.Test.YteaaepbnoiecoaaGreatTlA
import Derived.Test.YteaaepbnoiecoaaGreatJaw
namespace Go.Proofs.YteaaepbnoiecoaaGreat
open Go.RowKit
def skG (p : Int) (dg : List Int) (M : List (List Int)) (i k : Nat) : Bool := ((M.getD i []).getD k 0 * dg.getD i 0 + (M.getD k []).getD i 0 * dg.getD k 0) % p == 0
theorem entry_b {p : Int} {n : Nat} {M : List (List Int)} (hp : 2 <= p) (hM : matB p n M = true) (i k : Nat) : 0 <= (M.getD i []).getD k 0 /\ (M.getD i []).getD k 0 < p := by
 obtain ⟨hl, hw⟩ := matB_iff.1 hM
 by_cases h : i < M.length
 ·exact (hw _ (get_mem h)).2.g0 (by omega) k
 ·rw [show M.getD i [] = [] by rw [List.getD_eq_getElem?_getD, List.getElem?_eq_none (by omega)]; rfl]
  simp; omega
set_option maxHeartbeats 2000000 in
theorem sskew_c {p : Int} {s m : Value} {st : List Int} {M : List (List Int)} {w : World} (hd : Dok p st) (hs : El w s st) (hr : Re w m M) (hM : matB p (sz st.length) M = true) :
  Calls Tryz.prog 70 #[.agg #[.int .i64 p, s], m] w fun e w' => e = .returned (.bool (skewB p (diagF p st) M)) /\ Below w.heap.size w w' := by
 have hp1 := hd.hp.lo; have hp2 := hd.hp.hi; have hl3 := hd.hl; have hsz := sz_le hd
 obtain ⟨hMl, hMw⟩ := matB_iff.1 hM
 obtain ⟨a0, c0, rfl, _⟩ := id hs.op
 obtain ⟨bm, om, cm, rfl, hT⟩ := Re.tb hr hMl (by omega) (fun r h => (hMw r h).1)
 have hAb := entry_b (by omega : 2 <= p) hM
 have hdl := diagF_len (p := p) (st := st)
 have hDb : ∀ i, 0 <= (diagF p st).getD i 0 /\ (diagF p st).getD i 0 < p := fun i => (diagF_fp (p := p) (st := st) (by omega)).g0 (by omega) i
 have hG : ∀ i k, skG p (diagF p st) M i k = (((M.getD i []).getD k 0 * (diagF p st).getD i 0 + (M.getD k []).getD i 0 * (diagF p st).getD k 0) % p == 0) := fun _ _ => rfl
 have hB : skewB p (diagF p st) M = ((List.range (sz st.length)).all fun i => (List.range (i + 1)).all (skG p (diagF p st) M i)) := by unfold skewB; rw [hMl]; rfl
 have hno : ∀ i k, i < sz st.length -> k < i + 1 -> skG p (diagF p st) M i k = false -> skewB p (diagF p st) M = false := fun i k hi hk h => by
  rw [hB]
  exact List.all_eq_false.2 ⟨i, List.mem_range.2 hi, by rw [List.all_eq_false.2 ⟨k, List.mem_range.2 hk, by rw [h]; decide⟩]; decide⟩
 obtain ⟨G, hG_⟩ : ∃ G, G = skG p (diagF p st) M := ⟨_, rfl⟩
 simp only [<- hG_] at hG hB hno
 obtain ⟨A, hA⟩ : ∃ A : Nat -> Nat -> Int, A = fun i k => (M.getD i []).getD k 0 := ⟨_, rfl⟩
 have hAe : ∀ i k, (M.getD i []).getD k 0 = A i k := fun i k => by rw [hA]
 obtain ⟨D, hD_⟩ : ∃ D : Nat -> Int, D = fun i => (diagF p st).getD i 0 := ⟨_, rfl⟩
 have hDe : ∀ i, (diagF p st).getD i 0 = D i := fun i => by rw [hD_]
 simp only [hAe, hDe] at hG hAb hDb
 have hT := hT.congr (G := A) (fun i _ k _ => hAe i k)
 obtain ⟨n, hn⟩ : ∃ n, n = sz st.length := ⟨_, rfl⟩
 simp only [<- hn] at hsz hB hno hdl hT ⊢
 have HG := Lib.hid hG; have HB_ := Lib.hid hB; have HNO := Lib.hid hno; have HDL := Lib.hid hdl; have HDB := Lib.hid hDb; have HAB := Lib.hid hAb; have HDE := Lib.hid hDe
 clear hn hG hB hno hdl hDb hAb hDe hG_ hA hAe hD_ hMl
 go_enter Tryz.func70, Tryz.ntmps70
 have hb0 : Below w.heap.size w (w.alloc (.cells #[.int .i64 p, .slice a0 st.length c0] 26)) := bwT
 have hs := hs.below hb0; have hT := hT.below hb0
 have d0 : (w.alloc (.cells #[.int .i64 p, .slice a0 st.length c0] 26)).cell? ⟨w.heap.size, 0, none⟩ = some (.int .i64 p) := by simp [go_sem]
 have d1 : (w.alloc (.cells #[.int .i64 p, .slice a0 st.length c0] 26)).cell? ⟨w.heap.size, 1, none⟩ = some (.slice a0 st.length c0) := by simp [go_sem]
 go_wp2_with fail
 refine (sdiag_c hd hs).mono ?_; rintro e w1 ⟨vd, rfl, hD, hb1⟩
 have hs := hs.below hb1; have hT := hT.below hb1; have d0 := kept hb1 d0; have d1 := kept hb1 d1
 obtain ⟨gd, kd, rfl, hDo⟩ := id hD
 rw [HDL.out] at hDo ⊢
 have hDc : ∀ i, i < n -> w1.cell? ⟨gd, i, none⟩ = some (.int .i64 (D i)) := fun i hi => by
  have := hDo.hold hi
  rw [HDE.out] at this
  exact this
 have HDC := Lib.hid hDc
 have hbx : Below w.heap.size w w1 := bwT
 clear hD hDo hDc
 go_wp2_with fail
 go_loopw [6] (fun i wr => ∃ k : Nat, k <= n /\ i = .int .i64 k /\ ((List.range k).all fun i => (List.range (i + 1)).all (G i)) = true /\ Below w1.heap.size w1 wr) (fun i _ => n - (intOf i).toNat)
 case atStart => exact ⟨0, Nat.zero_le _, rfl, rfl, Below.refl _ _⟩
 case round =>
  obtain ⟨k, hk, rfl, hall, hb⟩ := hrel
  by_cases hlt : k < n
  ·have HALL := Lib.hid hall; clear hall
   generalize wr = wo at *
   go_wp2_with fail
   go_loopw [7] (fun i wr => ∃ j : Nat, j <= k + 1 /\ i = .int .i64 j /\ (List.range j).all (G k) = true /\ Below wo.heap.size wo wr) (fun i _ => k + 1 - (intOf i).toNat)
   case atStart => exact ⟨0, Nat.zero_le _, rfl, rfl, Below.refl _ _⟩
   case round =>
    obtain ⟨j, hj, rfl, hal2, hb5⟩ := hrel
    by_cases hlt2 : j < k + 1
    ·have HAL2 := Lib.hid hal2; clear hal2
     have hle : j <= k := by omega
     have hjn : j < n := by omega
     have hbc := bwC hb hb5
     have hT := hT.below hbc; have d0 := kept hbc d0; have d1 := kept hbc d1
     obtain ⟨b2, o2, c2, hcr, hcA⟩ := hT k hlt
     obtain ⟨b3, o3, c3, hcr2, hcA2⟩ := hT j hjn
     have hc1 := hcA j hjn; have hc2 := hcA2 k hlt
     have hc3 := kept hbc (HDC.out k hlt); have hc4 := kept hbc (HDC.out j hjn)
     have b1 := HAB.out k j; have b2_ := HAB.out j k; have b3_ := HDB.out k; have b4 := HDB.out j
     have hg := HG.out k j
     obtain ⟨x, hx⟩ : ∃ x, x = A k j := ⟨_, rfl⟩
     obtain ⟨y, hy⟩ : ∃ y, y = A j k := ⟨_, rfl⟩
     obtain ⟨z, hz⟩ : ∃ z, z = D k := ⟨_, rfl⟩
     obtain ⟨u, hu⟩ : ∃ u, u = D j := ⟨_, rfl⟩
     rw [<- hx] at hc1 b1 hg; rw [<- hy] at hc2 b2_ hg; rw [<- hz] at hc3 b3_ hg; rw [<- hu] at hc4 b4 hg
     obtain ⟨t, ht⟩ : ∃ t, t = (x * z + y * u) % p := ⟨_, rfl⟩
     rw [<- ht] at hg
     obtain ⟨b, hb_⟩ : ∃ b, b = G k j := ⟨_, rfl⟩
     rw [<- hb_] at hg
     have HN := Lib.hid (bne_not hg); have HT := Lib.hid ht; have HBB := Lib.hid hb_
     have m1 := mulb (k := x) (y := z) (A := 13) (B := 13) (by omega) (by omega) (by omega) (by omega)
     have m2 := mulb (k := y) (y := u) (A := 13) (B := 13) (by omega) (by omega) (by omega) (by omega)
     clear hx hy hz hu ht hb_ hg hcA hcA2 hT hbc
     go_wp2_with fail
     go_wp2_with fail
     refine region_flowP [(27, 1, []), (27, 5, [26, 13, 8, 7]), (27, 8, [26, 13]), (27, 12, [26, 13]), (27, 17, [26, 25, 20, 19]), (27, 20, [26, 25]), (27, 24, [26, 25])] [(false, [(0, 0), (1, 1), (2, 0), (3, 0), (4, 0), (5, 1), (6, 0), (7, 0), (8, 1), (9, 0), (10, 0), (11, 0), (12, 1), (13, 0), (14, 0), (15, 0), (16, 0), (17, 1), (18, 0), (19, 0), (20, 1), (21, 0), (22, 0), (23, 0), (24, 1), (25, 0), (26, 0), (27, 4), (28, 0)])] (by kernel_rfl) ?_
     refine norm_K fun K hK => ?_
     change wpList _ _ _ [_, _, _, _, _, _, _, _, _, _, _, _, _, _, _, _, _, _, _, _, _, _, _, _, _, _, _, _, _] _ _
     have hb21 : Below wr.heap.size wr wr.drew := bwT
     have d0 := kept hb21 d0; have d1 := kept hb21 d1; have hcr := kept hb21 hcr; have hcr2 := kept hb21 hcr2; have hc1 := kept hb21 hc1; have hc2 := kept hb21 hc2; have hc3 := kept hb21 hc3; have hc4 := kept hb21 hc4
     generalize wr.drew = wq at *
     go_wp2_with fail
     refine (smod_c (by omega) (by omega)).mono ?_; rintro e w22 ⟨rfl, rfl⟩
     rw [<- HT.out]
     have hbz : Below wr.heap.size wr wq := hb21
     cases b
     ·have hne : (t != 0) = true := HN.out
      go_wp2_with fail
      first | (refine hK _ _ ⟨rfl, ?_⟩; clear hK K) | refine ⟨rfl, ?_⟩
      go_wp2_with fail
      go_ret
      exact ⟨by rw [HNO.out k j hlt hlt2 HBB.out.symm]; rfl, bwC hbx (bwC hb (bwC hb5 hbz))⟩
     ·have hne : (t != 0) = false := HN.out
      go_wp2_with fail
      first | (refine hK _ _ ⟨rfl, ?_⟩; clear hK K) | refine ⟨rfl, ?_⟩
      go_wp2_with fail
      go_roundw
      case rel => exact ⟨j + 1, by omega, by go_num, by rw [all_succ, HAL2.out, <- HBB.out]; rfl, bwC hb5 hbz⟩
      case measure => first | (simp [intOf]; done) | (simp [intOf]; omega)
    ·obtain rfl : j = k + 1 := by omega
     have HAL2 := Lib.hid hal2; clear hal2
     have hnl : ¬ ((k : Int) + 1 <= (k : Int)) := by omega
     go_wp2_with fail
     go_roundw
     case rel => exact ⟨k + 1, by omega, by go_num, by rw [all_succ, HALL.out, HAL2.out]; rfl, bwC hb hb5⟩
     case measure => simp [intOf]; omega
  ·obtain rfl : k = n := by omega
   have HALL := Lib.hid hall; clear hall
   go_wp2_with fail
   go_ret
   exact ⟨by rw [HB_.out, HALL.out]; rfl, bwC hbx hb⟩
set_option maxHeartbeats 4000000 in
set_option maxRecDepth 100000 in
theorem sloc_c {p : Int} {s x : Value} {st : List Int} {A B C : List (List Int)} {w : World} (hd : Dok p st) (hs : El w s st) (hx : Tv w x A B C) (mA : matB p (sz st.length) A = true) (mB : matB p (sz st.length) B = true) (mC : matB p (sz st.length) C = true) :
    Calls Tryz.prog 32 #[.agg #[.int .i64 p, s], x] w fun e w' => e = .returned (.bool (locB p st A B C)) /\ Below w.heap.size w w' := by
  obtain ⟨a0, c0, rfl, _⟩ := id hs.op
  obtain ⟨va, vb, vc, rfl, hA, hB, hC⟩ := id hx
  clear hx
  have hp1 := hd.hp.lo; have hp2 := hd.hp.hi; have hl3 := hd.hl; have hsz := sz_le hd
  have hAl := (matB_iff.1 mA).1; have hBl := (matB_iff.1 mB).1; have hCl := (matB_iff.1 mC).1
  obtain ⟨b1, o1, c1, rfl, hTA⟩ := Re.tb hA hAl (by omega) (fun r h => ((matB_iff.1 mA).2 r h).1)
  obtain ⟨b2, o2, c2, rfl, hTB⟩ := Re.tb hB hBl (by omega) (fun r h => ((matB_iff.1 mB).2 r h).1)
  obtain ⟨b3, o3, c3, rfl, hTC⟩ := Re.tb hC hCl (by omega) (fun r h => ((matB_iff.1 mC).2 r h).1)
  have kA := fun W h1 h2 => sskew_c (w := W) (p := p) (s := .slice a0 st.length c0) (m := .slice (some ⟨b1, o1, none⟩) (sz st.length) c1) hd h1 h2 mA
  have kB := fun W h1 h2 => sskew_c (w := W) (p := p) (s := .slice a0 st.length c0) (m := .slice (some ⟨b2, o2, none⟩) (sz st.length) c2) hd h1 h2 mB
  have kC := fun W h1 h2 => sskew_c (w := W) (p := p) (s := .slice a0 st.length c0) (m := .slice (some ⟨b3, o3, none⟩) (sz st.length) c3) hd h1 h2 mC
  have hGl : locB p st A B C = (skewB p (diagF p st) A && (skewB p (diagF p st) B && (skewB p (diagF p st) C && all3 (sz st.length) (locG p st A B C)))) := rfl
  obtain ⟨zA, hzA⟩ : ∃ z, z = skewB p (diagF p st) A := ⟨_, rfl⟩
  obtain ⟨zB, hzB⟩ : ∃ z, z = skewB p (diagF p st) B := ⟨_, rfl⟩
  obtain ⟨zC, hzC⟩ : ∃ z, z = skewB p (diagF p st) C := ⟨_, rfl⟩
  simp only [<- hzA] at kA hGl; simp only [<- hzB] at kB hGl; simp only [<- hzC] at kC hGl
  have hfrm := fun W b off c i j k h hT hi hj hk => sform_c (w := W) (b := b) (off := off) (c := c) (i := i) (j := j) (k := k) (p := p) (s := .slice a0 st.length c0) hd h rfl hT hi hj hk
  have hfb := fun i j k => formF_fp (p := p) (st := st) (i := i) (j := j) (k := k) hd
  have eA := entry_b (by omega : 2 <= p) mA; have eB := entry_b (by omega : 2 <= p) mB; have eC := entry_b (by omega : 2 <= p) mC
  have hGd : ∀ i j k, locG p st A B C i j k = (((A.getD (j ^^^ k) []).getD i 0 * formF p st (j ^^^ k) j k + (B.getD (i ^^^ k) []).getD j 0 * formF p st i (i ^^^ k) k + (C.getD (i ^^^ j) []).getD k 0 * formF p st i j (i ^^^ j)) % p == 0) := fun _ _ _ => rfl
  have hxor := fun (i j : Nat) (hi : i < sz st.length) (hj : j < sz st.length) => xor_lt (st := st) hi hj
  have hbl : (basL p st).length = sz st.length := by unfold basL; simp
  have hbw : ∀ r ∈ basL p st, r.length = sz st.length := fun r hr => by
    unfold basL at hr
    obtain ⟨i, _, rfl⟩ := List.mem_map.1 hr
    simp
  have hbg := fun i hi k hk => bas_get (p := p) (st := st) (i := i) (k := k) hi hk
  have hbs := fun W h => sbas_c (w := W) (p := p) (s := .slice a0 st.length c0) hd h
  have hszc := fun W => ssize_c (w := W) (p := p) (a := a0) (n := st.length) (c := c0) (by omega)
  obtain ⟨G, hG⟩ : ∃ G, G = locG p st A B C := ⟨_, rfl⟩
  obtain ⟨F, hF⟩ : ∃ F, F = basF p st := ⟨_, rfl⟩
  obtain ⟨f, hf⟩ : ∃ f, f = formF p st := ⟨_, rfl⟩
  obtain ⟨α, hα⟩ : ∃ α : Nat -> Nat -> Int, α = fun i k => (A.getD i []).getD k 0 := ⟨_, rfl⟩
  obtain ⟨β, hβ⟩ : ∃ β : Nat -> Nat -> Int, β = fun i k => (B.getD i []).getD k 0 := ⟨_, rfl⟩
  obtain ⟨γ, hγ⟩ : ∃ γ : Nat -> Nat -> Int, γ = fun i k => (C.getD i []).getD k 0 := ⟨_, rfl⟩
  have eα : ∀ i k, (A.getD i []).getD k 0 = α i k := fun i k => by rw [hα]
  have eβ : ∀ i k, (B.getD i []).getD k 0 = β i k := fun i k => by rw [hβ]
  have eγ : ∀ i k, (C.getD i []).getD k 0 = γ i k := fun i k => by rw [hγ]
  simp only [<- hG] at hGd hGl
  simp only [<- hF] at hfrm hbg
  simp only [<- hf] at hfrm hfb hGd
  simp only [eα, eβ, eγ] at hGd eA eB eC
  have hTA := hTA.congr (G := α) (fun i _ k _ => eα i k)
  have hTB := hTB.congr (G := β) (fun i _ k _ => eβ i k)
  have hTC := hTC.congr (G := γ) (fun i _ k _ => eγ i k)
  obtain ⟨n, hn⟩ : ∃ n, n = sz st.length := ⟨_, rfl⟩
  simp only [<- hn] at hsz hGl hbl hbw hbg hszc hfrm hxor hTA hTB hTC kA kB kC ⊢
  have hAl2 : A.length = n := hAl.trans hn.symm
  have HGL := Lib.hid hGl; have HGD := Lib.hid hGd; have HBB := Lib.hid hbl; have HBW := Lib.hid hbw; have HBG := Lib.hid hbg; have HFB := Lib.hid hfb; have HXR := Lib.hid hxor; have EA := Lib.hid eA; have EB := Lib.hid eB; have EC := Lib.hid eC
  have hA9 : Re w (.slice (some ⟨b1, o1, none⟩) n c1) A := by rw [hn]; exact hA
  have hB9 : Re w (.slice (some ⟨b2, o2, none⟩) n c2) B := by rw [hn]; exact hB
  have hC9 : Re w (.slice (some ⟨b3, o3, none⟩) n c3) C := by rw [hn]; exact hC
  clear hzA hzB hzC hGl hGd hbl hbw hbg hfb hxor eA eB eC hG hF hf hα hβ hγ eα eβ eγ hn hAl hBl hCl hAl2 hA hB hC
  have hA := hA9; have hB := hB9; have hC := hC9; clear hA9 hB9 hC9
  cases zA with
  | false =>
    go_enter Tryz.func32, Tryz.ntmps32
    have hb0 : Below w.heap.size w ((w.alloc (.cells #[.int .i64 p, .slice a0 st.length c0] 26)).alloc (.cells #[.slice (some ⟨b1, o1, none⟩) n c1, .slice (some ⟨b2, o2, none⟩) n c2, .slice (some ⟨b3, o3, none⟩) n c3] 29)) := bwT
    have hs := hs.below hb0; have hA := hA.below hb0; have hB := hB.below hb0; have hC := hC.below hb0
    have d0 : ((w.alloc (.cells #[.int .i64 p, .slice a0 st.length c0] 26)).alloc (.cells #[.slice (some ⟨b1, o1, none⟩) n c1, .slice (some ⟨b2, o2, none⟩) n c2, .slice (some ⟨b3, o3, none⟩) n c3] 29)).cell? ⟨w.heap.size, 0, none⟩ = some (.int .i64 p) := by simp [go_sem]
    have d1 : ((w.alloc (.cells #[.int .i64 p, .slice a0 st.length c0] 26)).alloc (.cells #[.slice (some ⟨b1, o1, none⟩) n c1, .slice (some ⟨b2, o2, none⟩) n c2, .slice (some ⟨b3, o3, none⟩) n c3] 29)).cell? ⟨w.heap.size, 1, none⟩ = some (.slice a0 st.length c0) := by simp [go_sem]
    have e0 : ((w.alloc (.cells #[.int .i64 p, .slice a0 st.length c0] 26)).alloc (.cells #[.slice (some ⟨b1, o1, none⟩) n c1, .slice (some ⟨b2, o2, none⟩) n c2, .slice (some ⟨b3, o3, none⟩) n c3] 29)).cell? ⟨w.heap.size + 1, 0, none⟩ = some (.slice (some ⟨b1, o1, none⟩) n c1) := by simp [go_sem]
    have e1 : ((w.alloc (.cells #[.int .i64 p, .slice a0 st.length c0] 26)).alloc (.cells #[.slice (some ⟨b1, o1, none⟩) n c1, .slice (some ⟨b2, o2, none⟩) n c2, .slice (some ⟨b3, o3, none⟩) n c3] 29)).cell? ⟨w.heap.size + 1, 1, none⟩ = some (.slice (some ⟨b2, o2, none⟩) n c2) := by simp [go_sem]
    have e2 : ((w.alloc (.cells #[.int .i64 p, .slice a0 st.length c0] 26)).alloc (.cells #[.slice (some ⟨b1, o1, none⟩) n c1, .slice (some ⟨b2, o2, none⟩) n c2, .slice (some ⟨b3, o3, none⟩) n c3] 29)).cell? ⟨w.heap.size + 1, 2, none⟩ = some (.slice (some ⟨b3, o3, none⟩) n c3) := by simp [go_sem]
    go_wp2_with fail
    refine (kA _ hs hA).mono ?_; rintro e w1 ⟨rfl, hb1⟩
    have hs := hs.below hb1; have hA := hA.below hb1; have hB := hB.below hb1; have hC := hC.below hb1; have d0 := kept hb1 d0; have d1 := kept hb1 d1; have e0 := kept hb1 e0; have e1 := kept hb1 e1; have e2 := kept hb1 e2
    go_wp2_with fail
    go_ret
    exact ⟨by rw [HGL.out]; rfl, bwT⟩
  | true =>
   cases zB with
   | false =>
    go_enter Tryz.func32, Tryz.ntmps32
    have hb0 : Below w.heap.size w ((w.alloc (.cells #[.int .i64 p, .slice a0 st.length c0] 26)).alloc (.cells #[.slice (some ⟨b1, o1, none⟩) n c1, .slice (some ⟨b2, o2, none⟩) n c2, .slice (some ⟨b3, o3, none⟩) n c3] 29)) := bwT
    have hs := hs.below hb0; have hA := hA.below hb0; have hB := hB.below hb0; have hC := hC.below hb0
    have d0 : ((w.alloc (.cells #[.int .i64 p, .slice a0 st.length c0] 26)).alloc (.cells #[.slice (some ⟨b1, o1, none⟩) n c1, .slice (some ⟨b2, o2, none⟩) n c2, .slice (some ⟨b3, o3, none⟩) n c3] 29)).cell? ⟨w.heap.size, 0, none⟩ = some (.int .i64 p) := by simp [go_sem]
    have d1 : ((w.alloc (.cells #[.int .i64 p, .slice a0 st.length c0] 26)).alloc (.cells #[.slice (some ⟨b1, o1, none⟩) n c1, .slice (some ⟨b2, o2, none⟩) n c2, .slice (some ⟨b3, o3, none⟩) n c3] 29)).cell? ⟨w.heap.size, 1, none⟩ = some (.slice a0 st.length c0) := by simp [go_sem]
    have e0 : ((w.alloc (.cells #[.int .i64 p, .slice a0 st.length c0] 26)).alloc (.cells #[.slice (some ⟨b1, o1, none⟩) n c1, .slice (some ⟨b2, o2, none⟩) n c2, .slice (some ⟨b3, o3, none⟩) n c3] 29)).cell? ⟨w.heap.size + 1, 0, none⟩ = some (.slice (some ⟨b1, o1, none⟩) n c1) := by simp [go_sem]
    have e1 : ((w.alloc (.cells #[.int .i64 p, .slice a0 st.length c0] 26)).alloc (.cells #[.slice (some ⟨b1, o1, none⟩) n c1, .slice (some ⟨b2, o2, none⟩) n c2, .slice (some ⟨b3, o3, none⟩) n c3] 29)).cell? ⟨w.heap.size + 1, 1, none⟩ = some (.slice (some ⟨b2, o2, none⟩) n c2) := by simp [go_sem]
    have e2 : ((w.alloc (.cells #[.int .i64 p, .slice a0 st.length c0] 26)).alloc (.cells #[.slice (some ⟨b1, o1, none⟩) n c1, .slice (some ⟨b2, o2, none⟩) n c2, .slice (some ⟨b3, o3, none⟩) n c3] 29)).cell? ⟨w.heap.size + 1, 2, none⟩ = some (.slice (some ⟨b3, o3, none⟩) n c3) := by simp [go_sem]
    go_wp2_with fail
    refine (kA _ hs hA).mono ?_; rintro e w1 ⟨rfl, hb1⟩
    have hs := hs.below hb1; have hA := hA.below hb1; have hB := hB.below hb1; have hC := hC.below hb1; have d0 := kept hb1 d0; have d1 := kept hb1 d1; have e0 := kept hb1 e0; have e1 := kept hb1 e1; have e2 := kept hb1 e2
    go_wp2_with fail
    refine (kB _ hs hB).mono ?_; rintro e w2 ⟨rfl, hb2⟩
    have hs := hs.below hb2; have hA := hA.below hb2; have hB := hB.below hb2; have hC := hC.below hb2; have d0 := kept hb2 d0; have d1 := kept hb2 d1; have e0 := kept hb2 e0; have e1 := kept hb2 e1; have e2 := kept hb2 e2
    go_wp2_with fail
    go_ret
    exact ⟨by rw [HGL.out]; rfl, bwT⟩
   | true =>
    cases zC with
    | false =>
      go_enter Tryz.func32, Tryz.ntmps32
      have hb0 : Below w.heap.size w ((w.alloc (.cells #[.int .i64 p, .slice a0 st.length c0] 26)).alloc (.cells #[.slice (some ⟨b1, o1, none⟩) n c1, .slice (some ⟨b2, o2, none⟩) n c2, .slice (some ⟨b3, o3, none⟩) n c3] 29)) := bwT
      have hs := hs.below hb0; have hA := hA.below hb0; have hB := hB.below hb0; have hC := hC.below hb0
      have d0 : ((w.alloc (.cells #[.int .i64 p, .slice a0 st.length c0] 26)).alloc (.cells #[.slice (some ⟨b1, o1, none⟩) n c1, .slice (some ⟨b2, o2, none⟩) n c2, .slice (some ⟨b3, o3, none⟩) n c3] 29)).cell? ⟨w.heap.size, 0, none⟩ = some (.int .i64 p) := by simp [go_sem]
      have d1 : ((w.alloc (.cells #[.int .i64 p, .slice a0 st.length c0] 26)).alloc (.cells #[.slice (some ⟨b1, o1, none⟩) n c1, .slice (some ⟨b2, o2, none⟩) n c2, .slice (some ⟨b3, o3, none⟩) n c3] 29)).cell? ⟨w.heap.size, 1, none⟩ = some (.slice a0 st.length c0) := by simp [go_sem]
      have e0 : ((w.alloc (.cells #[.int .i64 p, .slice a0 st.length c0] 26)).alloc (.cells #[.slice (some ⟨b1, o1, none⟩) n c1, .slice (some ⟨b2, o2, none⟩) n c2, .slice (some ⟨b3, o3, none⟩) n c3] 29)).cell? ⟨w.heap.size + 1, 0, none⟩ = some (.slice (some ⟨b1, o1, none⟩) n c1) := by simp [go_sem]
      have e1 : ((w.alloc (.cells #[.int .i64 p, .slice a0 st.length c0] 26)).alloc (.cells #[.slice (some ⟨b1, o1, none⟩) n c1, .slice (some ⟨b2, o2, none⟩) n c2, .slice (some ⟨b3, o3, none⟩) n c3] 29)).cell? ⟨w.heap.size + 1, 1, none⟩ = some (.slice (some ⟨b2, o2, none⟩) n c2) := by simp [go_sem]
      have e2 : ((w.alloc (.cells #[.int .i64 p, .slice a0 st.length c0] 26)).alloc (.cells #[.slice (some ⟨b1, o1, none⟩) n c1, .slice (some ⟨b2, o2, none⟩) n c2, .slice (some ⟨b3, o3, none⟩) n c3] 29)).cell? ⟨w.heap.size + 1, 2, none⟩ = some (.slice (some ⟨b3, o3, none⟩) n c3) := by simp [go_sem]
      go_wp2_with fail
      refine (kA _ hs hA).mono ?_; rintro e w1 ⟨rfl, hb1⟩
      have hs := hs.below hb1; have hA := hA.below hb1; have hB := hB.below hb1; have hC := hC.below hb1; have d0 := kept hb1 d0; have d1 := kept hb1 d1; have e0 := kept hb1 e0; have e1 := kept hb1 e1; have e2 := kept hb1 e2
      go_wp2_with fail
      refine (kB _ hs hB).mono ?_; rintro e w2 ⟨rfl, hb2⟩
      have hs := hs.below hb2; have hA := hA.below hb2; have hB := hB.below hb2; have hC := hC.below hb2; have d0 := kept hb2 d0; have d1 := kept hb2 d1; have e0 := kept hb2 e0; have e1 := kept hb2 e1; have e2 := kept hb2 e2
      go_wp2_with fail
      refine (kC _ hs hC).mono ?_; rintro e w3 ⟨rfl, hb3⟩
      have hs := hs.below hb3; have hA := hA.below hb3; have hB := hB.below hb3; have hC := hC.below hb3; have d0 := kept hb3 d0; have d1 := kept hb3 d1; have e0 := kept hb3 e0; have e1 := kept hb3 e1; have e2 := kept hb3 e2
      go_wp2_with fail
      go_ret
      exact ⟨by rw [HGL.out]; rfl, bwT⟩
    | true =>
      go_enter Tryz.func32, Tryz.ntmps32
      have hb0 : Below w.heap.size w ((w.alloc (.cells #[.int .i64 p, .slice a0 st.length c0] 26)).alloc (.cells #[.slice (some ⟨b1, o1, none⟩) n c1, .slice (some ⟨b2, o2, none⟩) n c2, .slice (some ⟨b3, o3, none⟩) n c3] 29)) := bwT
      have hs := hs.below hb0; have hA := hA.below hb0; have hB := hB.below hb0; have hC := hC.below hb0; have hTA := hTA.below hb0; have hTB := hTB.below hb0; have hTC := hTC.below hb0
      have d0 : ((w.alloc (.cells #[.int .i64 p, .slice a0 st.length c0] 26)).alloc (.cells #[.slice (some ⟨b1, o1, none⟩) n c1, .slice (some ⟨b2, o2, none⟩) n c2, .slice (some ⟨b3, o3, none⟩) n c3] 29)).cell? ⟨w.heap.size, 0, none⟩ = some (.int .i64 p) := by simp [go_sem]
      have d1 : ((w.alloc (.cells #[.int .i64 p, .slice a0 st.length c0] 26)).alloc (.cells #[.slice (some ⟨b1, o1, none⟩) n c1, .slice (some ⟨b2, o2, none⟩) n c2, .slice (some ⟨b3, o3, none⟩) n c3] 29)).cell? ⟨w.heap.size, 1, none⟩ = some (.slice a0 st.length c0) := by simp [go_sem]
      have e0 : ((w.alloc (.cells #[.int .i64 p, .slice a0 st.length c0] 26)).alloc (.cells #[.slice (some ⟨b1, o1, none⟩) n c1, .slice (some ⟨b2, o2, none⟩) n c2, .slice (some ⟨b3, o3, none⟩) n c3] 29)).cell? ⟨w.heap.size + 1, 0, none⟩ = some (.slice (some ⟨b1, o1, none⟩) n c1) := by simp [go_sem]
      have e1 : ((w.alloc (.cells #[.int .i64 p, .slice a0 st.length c0] 26)).alloc (.cells #[.slice (some ⟨b1, o1, none⟩) n c1, .slice (some ⟨b2, o2, none⟩) n c2, .slice (some ⟨b3, o3, none⟩) n c3] 29)).cell? ⟨w.heap.size + 1, 1, none⟩ = some (.slice (some ⟨b2, o2, none⟩) n c2) := by simp [go_sem]
      have e2 : ((w.alloc (.cells #[.int .i64 p, .slice a0 st.length c0] 26)).alloc (.cells #[.slice (some ⟨b1, o1, none⟩) n c1, .slice (some ⟨b2, o2, none⟩) n c2, .slice (some ⟨b3, o3, none⟩) n c3] 29)).cell? ⟨w.heap.size + 1, 2, none⟩ = some (.slice (some ⟨b3, o3, none⟩) n c3) := by simp [go_sem]
      go_wp2_with fail
      refine (kA _ hs hA).mono ?_; rintro e w1 ⟨rfl, hb1⟩
      have hs := hs.below hb1; have hA := hA.below hb1; have hB := hB.below hb1; have hC := hC.below hb1; have hTA := hTA.below hb1; have hTB := hTB.below hb1; have hTC := hTC.below hb1; have d0 := kept hb1 d0; have d1 := kept hb1 d1; have e0 := kept hb1 e0; have e1 := kept hb1 e1; have e2 := kept hb1 e2
      go_wp2_with fail
      refine (kB _ hs hB).mono ?_; rintro e w2 ⟨rfl, hb2⟩
      have hs := hs.below hb2; have hA := hA.below hb2; have hB := hB.below hb2; have hC := hC.below hb2; have hTA := hTA.below hb2; have hTB := hTB.below hb2; have hTC := hTC.below hb2; have d0 := kept hb2 d0; have d1 := kept hb2 d1; have e0 := kept hb2 e0; have e1 := kept hb2 e1; have e2 := kept hb2 e2
      go_wp2_with fail
      refine (kC _ hs hC).mono ?_; rintro e w3 ⟨rfl, hb3⟩
      have hs := hs.below hb3; have hA := hA.below hb3; have hB := hB.below hb3; have hC := hC.below hb3; have hTA := hTA.below hb3; have hTB := hTB.below hb3; have hTC := hTC.below hb3; have d0 := kept hb3 d0; have d1 := kept hb3 d1; have e0 := kept hb3 e0; have e1 := kept hb3 e1; have e2 := kept hb3 e2
      go_wp2_with fail
      refine region_flow [(false, [(0, 1), (2, 1), (1, 5)]), (false, [(3, 4), (4, 0), (5, 0)])] (by kernel_rfl) ?_
      refine norm_K fun K hK => ?_
      change wpList _ _ _ [_, _, _] _ _
      have hb4 : Below w3.heap.size w3 w3.drew := bwT
      have hs := hs.below hb4; have hTA := hTA.below hb4; have hTB := hTB.below hb4; have hTC := hTC.below hb4; have d0 := kept hb4 d0; have d1 := kept hb4 d1; have e0 := kept hb4 e0; have e1 := kept hb4 e1; have e2 := kept hb4 e2
      generalize w3.drew = wq at *
      go_wp2_with fail
      refine (hbs _ hs).mono ?_; rintro e w5 ⟨vb, rfl, hT0, hb5⟩
      have hs := hs.below hb5; have hTA := hTA.below hb5; have hTB := hTB.below hb5; have hTC := hTC.below hb5; have d0 := kept hb5 d0; have d1 := kept hb5 d1; have e0 := kept hb5 e0; have e1 := kept hb5 e1; have e2 := kept hb5 e2
      go_wp2_with fail
      have hz0 : Below wq.heap.size wq w5 := bwT
      first | (refine hK _ _ ⟨hz0, ?_⟩; clear hK K) | refine ⟨hz0, ?_⟩
      clear hz0
      refine norm_K fun K hK => ?_
      change wpList _ _ _ [_, _, _] _ _
      obtain ⟨bb, ob, cb, rfl, hT1⟩ := Re.tb hT0 HBB.out (by omega) HBW.out
      have hT := hT1.congr (G := F) (fun i hi k hk => HBG.out i hi k hk)
      clear hT1
      go_wp2_with fail
      refine (hszc _).mono ?_; rintro e w6 ⟨rfl, hb6⟩
      have hs := hs.below hb6; have hTA := hTA.below hb6; have hTB := hTB.below hb6; have hTC := hTC.below hb6; have d0 := kept hb6 d0; have d1 := kept hb6 d1; have e0 := kept hb6 e0; have e1 := kept hb6 e1; have e2 := kept hb6 e2; have hT := hT.below hb6
      go_wp2_with fail
      first | (refine hK _ _ ⟨rfl, ?_⟩; clear hK K) | refine ⟨rfl, ?_⟩
      have hbx : Below w.heap.size w w6 := bwT
      clear hT0
      go_wp2_with fail
      go_loopw [7] (fun i wr => ∃ k : Nat, k <= n /\ i = .int .i64 k /\ ((List.range k).all fun i => (List.range n).all fun j => (List.range n).all (G i j)) = true /\ Below w6.heap.size w6 wr) (fun i _ => n - (intOf i).toNat)
      case atStart => exact ⟨0, Nat.zero_le _, rfl, rfl, Below.refl _ _⟩
      case round =>
        obtain ⟨i, hi, rfl, hall, hb⟩ := hrel
        by_cases hlt : i < n
        · have HALL := Lib.hid hall; clear hall
          generalize wr = wo at *
          go_wp2_with fail
          go_loopw [8] (fun i_ wr => ∃ j : Nat, j <= n /\ i_ = .int .i64 j /\ ((List.range j).all fun j => (List.range n).all (G i j)) = true /\ Below wo.heap.size wo wr) (fun i _ => n - (intOf i).toNat)
          case atStart => exact ⟨0, Nat.zero_le _, rfl, rfl, Below.refl _ _⟩
          case round =>
            obtain ⟨j, hj, rfl, hal2, hb5⟩ := hrel
            by_cases hlt2 : j < n
            · have HAL2 := Lib.hid hal2; clear hal2
              generalize wr = wp at *
              go_wp2_with fail
              go_loopw [9] (fun i_ wr => ∃ k : Nat, k <= n /\ i_ = .int .i64 k /\ (List.range k).all (G i j) = true /\ Below wp.heap.size wp wr) (fun i _ => n - (intOf i).toNat)
              case atStart => exact ⟨0, Nat.zero_le _, rfl, rfl, Below.refl _ _⟩
              case round =>
                obtain ⟨k, hk, rfl, hal3, hb6⟩ := hrel
                by_cases hlt3 : k < n
                · have HAL3 := Lib.hid hal3; clear hal3
                  have hbc := bwC hb (bwC hb5 hb6)
                  have hs := hs.below hbc; have d0 := kept hbc d0; have d1 := kept hbc d1; have e0 := kept hbc e0; have e1 := kept hbc e1; have e2 := kept hbc e2; have hT := hT.below hbc; have hTA := hTA.below hbc; have hTB := hTB.below hbc; have hTC := hTC.below hbc
                  have hg := HGD.out i j k
                  have x1 := HXR.out j k hlt2 hlt3; have x2 := HXR.out i k hlt hlt3; have x3 := HXR.out i j hlt hlt2
                  have t1 := xor_bits j (by omega) k (by omega); have t2 := xor_bits i (by omega) k (by omega); have t3 := xor_bits i (by omega) j (by omega)
                  obtain ⟨u, hu⟩ : ∃ u, u = j ^^^ k := ⟨_, rfl⟩
                  obtain ⟨v, hv⟩ : ∃ v, v = i ^^^ k := ⟨_, rfl⟩
                  obtain ⟨q, hq⟩ : ∃ q, q = i ^^^ j := ⟨_, rfl⟩
                  rw [<- hu] at hg x1 t1; rw [<- hv] at hg x2 t2; rw [<- hq] at hg x3 t3
                  clear hu hv hq hbc
                  obtain ⟨ba, oa, ca, hca, hra⟩ := hTA u x1
                  obtain ⟨bβ, oβ, cβ, hcβ, hrβ⟩ := hTB v x2
                  obtain ⟨bγ, oγ, cγ, hcγ, hrγ⟩ := hTC q x3
                  have y1 := hra i hlt; have y2 := hrβ j hlt2; have y3 := hrγ k hlt3
                  have g1 := EA.out u i; have g2 := EB.out v j; have g3 := EC.out q k
                  have f1 := HFB.out u j k; have f2 := HFB.out i v k; have f3 := HFB.out i j q
                  have h1 := fun W h1 h2 => hfrm W bb ob cb u j k h1 h2 x1 hlt2 hlt3
                  have h2 := fun W h1 h2 => hfrm W bb ob cb i v k h1 h2 hlt x2 hlt3
                  have h3 := fun W h1 h2 => hfrm W bb ob cb i j q h1 h2 hlt hlt2 x3
                  obtain ⟨m1, hm1⟩ : ∃ z, z = α u i := ⟨_, rfl⟩
                  obtain ⟨m2, hm2⟩ : ∃ z, z = β v j := ⟨_, rfl⟩
                  obtain ⟨m3, hm3⟩ : ∃ z, z = γ q k := ⟨_, rfl⟩
                  obtain ⟨r1, hr1⟩ : ∃ z, z = f u j k := ⟨_, rfl⟩
                  obtain ⟨r2, hr2⟩ : ∃ z, z = f i v k := ⟨_, rfl⟩
                  obtain ⟨r3, hr3⟩ : ∃ z, z = f i j q := ⟨_, rfl⟩
                  simp only [<- hm1, <- hm2, <- hm3, <- hr1, <- hr2, <- hr3] at hg y1 y2 y3 g1 g2 g3 f1 f2 f3 h1 h2 h3
                  obtain ⟨t, ht⟩ : ∃ t, t = (m1 * r1 + m2 * r2 + m3 * r3) % p := ⟨_, rfl⟩
                  rw [<- ht] at hg
                  obtain ⟨b, hb_⟩ : ∃ b, b = G i j k := ⟨_, rfl⟩
                  rw [<- hb_] at hg
                  have HN := Lib.hid (bne_not hg); have HT := Lib.hid ht; have HB_ := Lib.hid hb_
                  have z1 := mulb (k := m1) (y := r1) (A := 13) (B := 13) (by omega) (by omega) (by omega) (by omega)
                  have z2 := mulb (k := m2) (y := r2) (A := 13) (B := 13) (by omega) (by omega) (by omega) (by omega)
                  have z3 := mulb (k := m3) (y := r3) (A := 13) (B := 13) (by omega) (by omega) (by omega) (by omega)
                  clear hm1 hm2 hm3 hr1 hr2 hr3 ht hb_ hg hra hrβ hrγ hTA hTB hTC
                  go_wp2_with fail
                  go_wp2_with fail
                  refine region_flowP [(17, 10, []), (36, 10, [17]), (36, 29, []), (56, 10, [36, 17]), (56, 29, [36]), (56, 49, [])] [(false, [(0, 0), (1, 1), (2, 0), (3, 0), (4, 0), (5, 0), (6, 1), (7, 0), (8, 0), (9, 1), (10, 1), (11, 0), (12, 0), (13, 0), (14, 0), (15, 0), (16, 0), (19, 0), (20, 1), (21, 0), (22, 0), (23, 0), (24, 0), (25, 1), (26, 0), (27, 0), (28, 1), (29, 1), (30, 0), (31, 0), (32, 0), (33, 0), (34, 0), (35, 0), (39, 0), (40, 1), (41, 0), (42, 0), (43, 0), (44, 0), (45, 1), (46, 0), (47, 0), (48, 1), (49, 1), (50, 0), (51, 0), (52, 0), (53, 0), (54, 0), (55, 0), (17, 5)]), (false, [(18, 0), (36, 5)]), (false, [(37, 0), (38, 0), (56, 5)]), (false, [(57, 0), (58, 0), (59, 0)])] (by kernel_rfl) ?_
                  refine norm_K fun K hK => ?_
                  change wpList _ _ _ [_, _, _, _, _, _, _, _, _, _, _, _, _, _, _, _, _, _, _, _, _, _, _, _, _, _, _, _, _, _, _, _, _, _, _, _, _, _, _, _, _, _, _, _, _, _, _, _, _, _, _, _] _ _
                  have hb21 : Below wr.heap.size wr wr.drew := bwT
                  have hs := hs.below hb21; have hT := hT.below hb21; have d0 := kept hb21 d0; have d1 := kept hb21 d1; have e0 := kept hb21 e0; have e1 := kept hb21 e1; have e2 := kept hb21 e2; have hca := kept hb21 hca; have hcβ := kept hb21 hcβ; have hcγ := kept hb21 hcγ; have y1 := kept hb21 y1; have y2 := kept hb21 y2; have y3 := kept hb21 y3
                  generalize wr.drew = wv at *
                  go_wp2_with fail
                  refine (h1 _ hs hT).mono ?_; rintro e w22 ⟨rfl, hb22⟩
                  have hs := hs.below hb22; have hT := hT.below hb22; have d0 := kept hb22 d0; have d1 := kept hb22 d1; have e0 := kept hb22 e0; have e1 := kept hb22 e1; have e2 := kept hb22 e2; have hca := kept hb22 hca; have hcβ := kept hb22 hcβ; have hcγ := kept hb22 hcγ; have y1 := kept hb22 y1; have y2 := kept hb22 y2; have y3 := kept hb22 y3
                  go_wp2_with fail
                  have hz0 : Below wv.heap.size wv w22 := bwT
                  first | (refine hK _ _ ⟨hz0, ?_⟩; clear hK K) | refine ⟨hz0, ?_⟩
                  clear hz0
                  refine norm_K fun K hK => ?_
                  change wpList _ _ _ [_, _] _ _
                  go_wp2_with fail
                  refine (h2 _ hs hT).mono ?_; rintro e w23 ⟨rfl, hb23⟩
                  have hs := hs.below hb23; have hT := hT.below hb23; have d0 := kept hb23 d0; have d1 := kept hb23 d1; have e0 := kept hb23 e0; have e1 := kept hb23 e1; have e2 := kept hb23 e2; have hca := kept hb23 hca; have hcβ := kept hb23 hcβ; have hcγ := kept hb23 hcγ; have y1 := kept hb23 y1; have y2 := kept hb23 y2; have y3 := kept hb23 y3
                  go_wp2_with fail
                  have hz1 : Below wv.heap.size wv w23 := bwT
                  first | (refine hK _ _ ⟨hz1, ?_⟩; clear hK K) | refine ⟨hz1, ?_⟩
                  clear hz1
                  refine norm_K fun K hK => ?_
                  change wpList _ _ _ [_, _, _] _ _
                  go_wp2_with fail
                  refine (h3 _ hs hT).mono ?_; rintro e w24 ⟨rfl, hb24⟩
                  have hs := hs.below hb24; have hT := hT.below hb24; have d0 := kept hb24 d0; have d1 := kept hb24 d1; have e0 := kept hb24 e0; have e1 := kept hb24 e1; have e2 := kept hb24 e2; have hca := kept hb24 hca; have hcβ := kept hb24 hcβ; have hcγ := kept hb24 hcγ; have y1 := kept hb24 y1; have y2 := kept hb24 y2; have y3 := kept hb24 y3
                  go_wp2_with fail
                  have hz2 : Below wv.heap.size wv w24 := bwT
                  first | (refine hK _ _ ⟨hz2, ?_⟩; clear hK K) | refine ⟨hz2, ?_⟩
                  clear hz2
                  refine norm_K fun K hK => ?_
                  change wpList _ _ _ [_, _, _] _ _
                  go_wp2_with fail
                  first | (refine hK _ _ ⟨rfl, ?_⟩; clear hK K) | refine ⟨rfl, ?_⟩
                  have hbz : Below wr.heap.size wr w24 := bwT
                  go_wp2_with fail
                  refine (smod_c (by omega) (by omega)).mono ?_; rintro e w9 ⟨rfl, rfl⟩
                  rw [<- HT.out]
                  cases b
                  · have hne : (t != 0) = true := HN.out
                    go_wp2_with fail
                    go_ret
                    exact ⟨by rw [HGL.out]; simp only [Bool.true_and]; rw [all3_no hlt hlt2 hlt3 HB_.out.symm]; rfl, bwC hbx (bwC hb (bwC hb5 (bwC hb6 hbz)))⟩
                  · have hne : (t != 0) = false := HN.out
                    go_wp2_with fail
                    go_roundw
                    case rel => exact ⟨k + 1, by omega, by go_num, by rw [all_succ, HAL3.out, <- HB_.out]; rfl, bwC hb6 hbz⟩
                    case measure => simp [intOf]; omega
                · obtain rfl : k = n := by omega
                  have HAL3 := Lib.hid hal3; clear hal3
                  go_wp2_with fail
                  go_roundw
                  case rel => exact ⟨j + 1, by omega, by go_num, by rw [all_succ, HAL2.out, HAL3.out]; rfl, bwC hb5 hb6⟩
                  case measure => simp [intOf]; omega
            · obtain rfl : j = n := by omega
              have HAL2 := Lib.hid hal2; clear hal2
              go_wp2_with fail
              go_roundw
              case rel => exact ⟨i + 1, by omega, by go_num, by rw [all_succ, HALL.out, HAL2.out]; rfl, bwC hb hb5⟩
              case measure => simp [intOf]; omega
        · obtain rfl : i = n := by omega
          have HALL := Lib.hid hall; clear hall
          go_wp2_with fail
          go_ret
          exact ⟨by rw [HGL.out]; simp only [Bool.true_and]; unfold all3; rw [HALL.out]; rfl, bwC hbx hb⟩
end Go.Proofs.YteaaepbnoiecoaaGreat
