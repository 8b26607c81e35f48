import Derived.Test.YtilgbekffbphgaaGreatTrB
import Derived.Test.YtilgbekffbphgaaGreatTrD
import Derived.Test.YtilgbekffbphgaaGreatJbb
import Derived.Test.YtilgbekffbphgaaGreatJag
namespace Go.Proofs.YtilgbekffbphgaaGreat
open Go.RowKit
theorem all_succ {n : Nat} {f : Nat -> Bool} : (List.range (n + 1)).all f = ((List.range n).all f && f n) := by
 rw [List.range_succ, List.all_append]; simp
theorem all2_no {n i k : Nat} {g : Nat -> Nat -> Bool} (hi : i < n) (hk : k < n) (h : g i k = false) : ((List.range n).all fun i => (List.range n).all (g i)) = false :=
 List.all_eq_false.2 ⟨i, List.mem_range.2 hi, by rw [List.all_eq_false.2 ⟨k, List.mem_range.2 hk, by rw [h]; decide⟩]; decide⟩
def Un (w : World) (g n : Nat) : Prop := ∀ j, j < n -> ∃ a c, w.cell? ⟨g, j, none⟩ = some (.slice a n c) /\ El w (.slice a n c) (oneL n j)
def Tb (w : World) (b off n : Nat) (F : Nat -> Nat -> Int) : Prop := ∀ i, i < n -> ∃ b2 o2 c, w.cell? ⟨b, off + i, none⟩ = some (.slice (some ⟨b2, o2, none⟩) n c) /\ ∀ k, k < n -> w.cell? ⟨b2, o2 + k, none⟩ = some (.int .i64 (F i k))
section
variable {w w' : World} {g n b off : Nat} {F : Nat -> Nat -> Int}
theorem Un.below (h : Un w g n) (hb : Below w.heap.size w w') : Un w' g n := fun j hj => by
 obtain ⟨a, c, h1, h2⟩ := h j hj
 exact ⟨a, c, kept hb h1, h2.below hb⟩
theorem Tb.below (h : Tb w b off n F) (hb : Below w.heap.size w w') : Tb w' b off n F := fun i hi => by
 obtain ⟨b2, o2, c, h1, h2⟩ := h i hi
 exact ⟨b2, o2, c, kept hb h1, fun k hk => kept hb (h2 k hk)⟩
theorem Tb.congr {G : Nat -> Nat -> Int} (h : Tb w b off n F) (e : ∀ i, i < n -> ∀ k, k < n -> F i k = G i k) : Tb w b off n G := fun i hi => by
 obtain ⟨b2, o2, c, h1, h2⟩ := h i hi
 exact ⟨b2, o2, c, h1, fun k hk => by rw [<- e i hi k hk]; exact h2 k hk⟩
theorem Re.tb {v : Value} {L : List (List Int)} (h : Re w v L) (hl : L.length = n) (h0 : 0 < n) (hL : ∀ r ∈ L, r.length = n) : ∃ b off c, v = .slice (some ⟨b, off, none⟩) n c /\ Tb w b off n fun i k => (L.getD i []).getD k 0 := by
 obtain ⟨a, c, rfl, _, _, h3⟩ := h
 obtain ⟨b, off, rfl, h4⟩ := h3.resolve_left (fun e => by rw [e] at hl; simp at hl; omega)
 refine ⟨b, off, c, by rw [hl], fun i hi => ?_⟩
 obtain ⟨u, h1, h2⟩ := h4 i (by omega)
 obtain ⟨a2, c2, rfl, _⟩ := id h2.op
 have hr := hL L[i] (List.getElem_mem _)
 have hg : L.getD i [] = L[i] := by rw [List.getD_eq_getElem?_getD, List.getElem?_eq_getElem (by omega)]; rfl
 obtain ⟨b2, o2, rfl, _⟩ := Sl.cellat h2.sl (i := 0) (by omega)
 refine ⟨b2, o2, c2, by rw [hr] at h1; exact h1, fun k hk => ?_⟩
 obtain ⟨b3, o3, e, hc⟩ := Sl.cellat h2.sl (i := k) (by omega)
 cases e
 show w.cell? ⟨b2, o2 + k, none⟩ = some (Value.int .i64 ((L.getD i []).getD k 0))
 rw [hg]
 exact hc
end
theorem unitu_c {n : Nat} {w : World} (hn : n <= 1000) (h0 : 0 < n) :
  Calls Tryz.prog 56 #[.int .i64 n] w fun e w' => ∃ g cap, e = .returned (.slice (some ⟨g, 0, none⟩) n cap) /\ Un w' g n /\ Below w.heap.size w w' := by
 refine (unit_c hn).mono ?_
 rintro e w' ⟨v, us, rfl, hU, hA, hform, hb⟩
 obtain ⟨g, cap, rfl⟩ := hform h0
 have hV : RowsF w' w.heap.size us ((List.range n).map (oneL n)) := ⟨hA.1, hA.2.1⟩
 refine ⟨g, cap, rfl, fun j hj => ?_, hb⟩
 obtain ⟨gj, cj, _, h1, h2, _⟩ := row_at (p := 2) (m := n) hU hV (fun r hr => by obtain ⟨i, _, rfl⟩ := List.mem_map.1 hr; exact Ev.one (by omega)) (j := j) (by simp; exact hj)
 have e : ((List.range n).map (oneL n)).getD j [] = oneL n j := by simp [List.getD_eq_getElem?_getD, hj]
 rw [e] at h2
 exact ⟨_, cj, h1, h2.el⟩
theorem bas_get {p : Int} {st : List Int} {i k : Nat} (hi : i < sz st.length) (hk : k < sz st.length) : ((basL p st).getD i []).getD k 0 = basF p st i k := by
 unfold basL
 simp [List.getD_eq_getElem?_getD, hi, hk]
def autG (p : Int) (st : List Int) (M : List (List Int)) (i k : Nat) : Bool := decide (applyL p M (mulL p st (oneL (sz st.length) i) (oneL (sz st.length) k)) = mulL p st (colL M i) (colL M k))
def autR (p : Int) (st : List Int) (M : List (List Int)) (i k : Nat) : Bool := decide (scaleL p (colL M (i ^^^ k)) (basF p st i k) = mulL p st (colL M i) (colL M k))
set_option maxHeartbeats 4000000 in
theorem isaut_c {p : Int} {s m : Value} {st : List Int} {M : List (List Int)} {w : World} (hd : Dok p st) (hs : El w s st) (hr : Re w m M) (hM : matB p (sz st.length) M = true) :
  Calls Tryz.prog 21 #[.agg #[.int .i64 p, s], m] w fun e w' => e = .returned (.bool (autK p st M)) /\ Below w.heap.size w w' := by
 have hp1 := hd.hp.lo; have hp2 := hd.hp.hi; have hl3 := hd.hl; have hsz := sz_le hd
 obtain ⟨hMl, hMw⟩ := matB_iff.1 hM
 obtain ⟨a0, c0, rfl, _⟩ := id hs.op
 obtain ⟨ar, cr, rfl, _⟩ := id hr
 have hszc := fun W => size_c (w := W) (p := p) (a := a0) (n := st.length) (c := c0) (by omega)
 have hdet := fun W h => det_c (w := W) (rows := .slice ar M.length cr) (m := sz st.length) hd.hp hMw h (by omega) (by omega) hMl
 have hcol := fun i => colL_ev (by omega) hM i
 have hev := fun i => Ev.unit1 (p := p) (n := sz st.length) (i := i) (by omega)
 have hev2 := fun i j => mulL_ev (p := p) (st := st) (by omega) (hev i) (hev j)
 have hev3 := fun i j => mulL_ev (p := p) (st := st) (by omega) (hcol i) (hcol j)
 have hap := fun (v : List Int) => apply_ev (v := v) (by omega : 1 <= p) hM
 have hK : autK p st M = ((detL p M != 0) && ((List.range (sz st.length)).all fun i => (List.range (sz st.length)).all (autG p st M i))) := rfl
 have hG : ∀ i k, autG p st M i k = decide (applyL p M (mulL p st (oneL (sz st.length) i) (oneL (sz st.length) k)) = mulL p st (colL M i) (colL M k)) := fun _ _ => rfl
 obtain ⟨G, hG_⟩ : ∃ G, G = autG p st M := ⟨_, rfl⟩
 obtain ⟨D, hD⟩ : ∃ D, D = detL p M := ⟨_, rfl⟩
 simp only [<- hG_] at hK hG
 simp only [<- hD] at hK hdet
 have hMs : M.length = sz st.length := hMl
 obtain ⟨n, hn⟩ : ∃ n, n = sz st.length := ⟨_, rfl⟩
 simp only [<- hn] at hszc hsz hK hG hMs hMw
 have hs8 : sz st.length <= 8 := (sz_le hd).2
 have HN := Lib.hid hn; have HK := Lib.hid hK; have HG := Lib.hid hG; have HEV := Lib.hid hev; have HCOL := Lib.hid hcol; have HEV2 := Lib.hid hev2; have HEV3 := Lib.hid hev3; have HAP := Lib.hid hap; have HML := Lib.hid hMs
 have hMb : M.length <= 8 := by omega
 clear hn hK hG hev hcol hev2 hev3 hap hMl hMs hG_ hD
 by_cases h0 : D = 0
 ·have E := Lib.hid (show autK p st M = false by rw [HK.out, h0]; rfl)
  have hz : (D == 0) = true := by simpa using h0
  clear h0
  go_enter Tryz.func21, Tryz.ntmps21
  have hb0 : Below w.heap.size w (w.alloc (.cells #[.int .i64 p, .slice a0 st.length c0] 26)) := bwT
  have hs := hs.below hb0; have hr := hr.below hb0
  have d0 : (w.alloc (.cells #[.int .i64 p, .slice a0 st.length c0] 26)).cell? ⟨w.heap.size, 0, none⟩ = some (.int .i64 p) := by simp [go_sem]
  have d1 : (w.alloc (.cells #[.int .i64 p, .slice a0 st.length c0] 26)).cell? ⟨w.heap.size, 1, none⟩ = some (.slice a0 st.length c0) := by simp [go_sem]
  go_wp2_with fail
  refine (dfield_c).mono ?_; rintro e w1 ⟨rfl, hb1⟩
  have hs := hs.below hb1; have hr := hr.below hb1; have d0 := kept hb1 d0; have d1 := kept hb1 d1
  go_wp2_with fail
  refine (hdet _ hr).mono ?_; rintro e w2 ⟨rfl, hb2⟩
  have hs := hs.below hb2; have hr := hr.below hb2; have d0 := kept hb2 d0; have d1 := kept hb2 d1
  go_wp2_with fail
  go_ret
  exact ⟨by rw [E.out]; rfl, bwT⟩
 have hz : (D == 0) = false := by simpa using h0
 have hzn : (D != 0) = true := by simpa using h0
 have HZ := Lib.hid hzn
 clear h0 hzn
 go_enter Tryz.func21, Tryz.ntmps21
 have hb0 : Below w.heap.size w (w.alloc (.cells #[.int .i64 p, .slice a0 st.length c0] 26)) := bwT
 have hs := hs.below hb0; have hr := hr.below hb0
 have d0 : (w.alloc (.cells #[.int .i64 p, .slice a0 st.length c0] 26)).cell? ⟨w.heap.size, 0, none⟩ = some (.int .i64 p) := by simp [go_sem]
 have d1 : (w.alloc (.cells #[.int .i64 p, .slice a0 st.length c0] 26)).cell? ⟨w.heap.size, 1, none⟩ = some (.slice a0 st.length c0) := by simp [go_sem]
 go_wp2_with fail
 refine (dfield_c).mono ?_; rintro e w1 ⟨rfl, hb1⟩
 have hs := hs.below hb1; have hr := hr.below hb1; have d0 := kept hb1 d0; have d1 := kept hb1 d1
 go_wp2_with fail
 refine (hdet _ hr).mono ?_; rintro e w2 ⟨rfl, hb2⟩
 have hs := hs.below hb2; have hr := hr.below hb2; have d0 := kept hb2 d0; have d1 := kept hb2 d1
 go_wp2_with fail
 refine (hszc _).mono ?_; rintro e w3 ⟨rfl, hb3⟩
 have hs := hs.below hb3; have hr := hr.below hb3; have d0 := kept hb3 d0; have d1 := kept hb3 d1
 go_wp2_with fail
 refine (unitu_c (n := n) (by omega) (by omega)).mono ?_; rintro e w4 ⟨g1, k1, rfl, hU, hb4⟩
 have hs := hs.below hb4; have hr := hr.below hb4; have d0 := kept hb4 d0; have d1 := kept hb4 d1
 have hbx : Below w.heap.size w w4 := bwT
 go_wp2_with fail
 go_loopw [20] (fun i wr => ∃ k : Nat, k <= n /\ i = .int .i64 k /\ ((List.range k).all fun i => (List.range n).all (G i)) = true /\ Below w4.heap.size w4 wr) (fun i _ => n - (intOf i).toNat)
 case atStart => exact ⟨0, Nat.zero_le _, rfl, rfl, Below.refl _ _⟩
 case round =>
  obtain ⟨k, hk, rfl, hall, hb⟩ := hrel
  by_cases hlt : k < n
  ·have hs := hs.below hb; have hr := hr.below hb; have d0 := kept hb d0; have d1 := kept hb d1; have hU := hU.below hb
   obtain ⟨a2, c2, hcu, hx⟩ := hU k hlt
   have HALL := Lib.hid hall; clear hall
   generalize wr = wo at *
   go_wp2_with fail
   refine (hszc _).mono ?_; rintro e w21 ⟨rfl, hb21⟩
   have hs := hs.below hb21; have hr := hr.below hb21; have d0 := kept hb21 d0; have d1 := kept hb21 d1; have hx := hx.below hb21
   go_wp2_with fail
   refine (unitu_c (n := n) (by omega) (by omega)).mono ?_; rintro e w22 ⟨g2, k2, rfl, hV, hb22⟩
   have hs := hs.below hb22; have hr := hr.below hb22; have d0 := kept hb22 d0; have d1 := kept hb22 d1; have hx := hx.below hb22
   have hby := bwC hb (bwC hb21 hb22)
   have HS := Lib.hid hs; have HR := Lib.hid hr; have D0 := Lib.hid d0; have D1 := Lib.hid d1; have HX := Lib.hid hx; have HV := Lib.hid hV
   clear hs hr d0 d1 hx hV
   go_wp2_with fail
   go_loopw [29] (fun i wr => ∃ j : Nat, j <= n /\ i = .int .i64 j /\ (List.range j).all (G k) = true /\ Below w22.heap.size w22 wr) (fun i _ => n - (intOf i).toNat)
   case atStart => exact ⟨0, Nat.zero_le _, rfl, rfl, Below.refl _ _⟩
   case round =>
    obtain ⟨j, hj, rfl, hal2, hb5⟩ := hrel
    by_cases hlt2 : j < n
    ·have hs := HS.out.below hb5; have hr := HR.out.below hb5; have d0 := kept hb5 D0.out; have d1 := kept hb5 D1.out; have hx := HX.out.below hb5; have hV := HV.out.below hb5
     obtain ⟨a3, c3, hcv, hy⟩ := hV j hlt2
     have HAL2 := Lib.hid hal2; clear hal2 hV
     have hcl := fun i (hi : i < n) (r : List Int) (h : r ∈ M) => show i < r.length by have := (hMw r h).1; omega
     have HCL := Lib.hid hcl; clear hcl
     have hg := HG.out k j
     obtain ⟨b, hb_⟩ : ∃ b, b = G k j := ⟨_, rfl⟩
     rw [<- hb_] at hg
     have HGG := Lib.hid hg; have HB := Lib.hid hb_; clear hg hb_
     go_wp2_with fail
     go_wp2_with fail
     refine region_flow [(false, [(0, 0), (1, 0), (2, 1), (3, 0), (4, 0), (7, 1), (8, 0), (9, 0), (11, 0), (12, 0), (5, 5)]), (false, [(6, 5)]), (false, [(10, 5)]), (false, [(13, 5)]), (false, [(14, 4), (15, 4), (16, 0)])] (by kernel_rfl) ?_
     refine norm_K fun K hK => ?_
     change wpList _ _ _ [_, _, _, _, _, _, _, _, _, _, _] _ _
     have hb21 : Below wr.heap.size wr wr.drew := bwT
     have hs := hs.below hb21; have hr := hr.below hb21; have d0 := kept hb21 d0; have d1 := kept hb21 d1; have hx := hx.below hb21; have hy := hy.below hb21
     generalize wr.drew = wq at *
     go_wp2_with fail
     refine (times_c hd hs hx hy (by rw [HN.out]; exact HEV.out k) (by rw [HN.out]; exact HEV.out j)).mono ?_; rintro e w22 ⟨v1, rfl, h1, hb22⟩
     have hs := hs.below hb22; have hr := hr.below hb22; have d0 := kept hb22 d0; have d1 := kept hb22 d1; have hx := hx.below hb22; have hy := hy.below hb22
     go_wp2_with fail
     have hz0 : Below wq.heap.size wq w22 := bwT
     first | (refine hK _ _ ⟨hz0, ?_⟩; clear hK K) | refine ⟨hz0, ?_⟩
     clear hz0
     refine norm_K fun K hK => ?_
     change wpList _ _ _ [_] _ _
     go_wp2_with fail
     refine (apply_c (n := n) (by omega) (by omega) hr hMw h1.el (by rw [HN.out]; exact HEV2.out k j) (by omega) (by omega)).mono ?_; rintro e w23 ⟨v2, rfl, h2, hb23⟩
     have hs := hs.below hb23; have hr := hr.below hb23; have d0 := kept hb23 d0; have d1 := kept hb23 d1; have hx := hx.below hb23; have hy := hy.below hb23; have h1 := h1.below hb23
     go_wp2_with fail
     have hz1 : Below wq.heap.size wq w23 := bwT
     first | (refine hK _ _ ⟨hz1, ?_⟩; clear hK K) | refine ⟨hz1, ?_⟩
     clear hz1
     refine norm_K fun K hK => ?_
     change wpList _ _ _ [_] _ _
     go_wp2_with fail
     refine (column_c hr (HCL.out k hlt) (by omega)).mono ?_; rintro e w24 ⟨v3, rfl, h3, hb24⟩
     have hs := hs.below hb24; have hr := hr.below hb24; have d0 := kept hb24 d0; have d1 := kept hb24 d1; have hx := hx.below hb24; have hy := hy.below hb24; have h1 := h1.below hb24; have h2 := h2.below hb24
     go_wp2_with fail
     have hz2 : Below wq.heap.size wq w24 := bwT
     first | (refine hK _ _ ⟨hz2, ?_⟩; clear hK K) | refine ⟨hz2, ?_⟩
     clear hz2
     refine norm_K fun K hK => ?_
     change wpList _ _ _ [_] _ _
     go_wp2_with fail
     refine (column_c hr (HCL.out j hlt2) (by omega)).mono ?_; rintro e w25 ⟨v4, rfl, h4, hb25⟩
     have hs := hs.below hb25; have hr := hr.below hb25; have d0 := kept hb25 d0; have d1 := kept hb25 d1; have hx := hx.below hb25; have hy := hy.below hb25; have h1 := h1.below hb25; have h2 := h2.below hb25; have h3 := h3.below hb25
     go_wp2_with fail
     have hz3 : Below wq.heap.size wq w25 := bwT
     first | (refine hK _ _ ⟨hz3, ?_⟩; clear hK K) | refine ⟨hz3, ?_⟩
     clear hz3
     refine norm_K fun K hK => ?_
     change wpList _ _ _ [_, _, _] _ _
     go_wp2_with fail
     refine (times_c hd hs h3.el h4.el (HCOL.out k) (HCOL.out j)).mono ?_; rintro e w26 ⟨v5, rfl, h5, hb26⟩
     have hs := hs.below hb26; have hr := hr.below hb26; have d0 := kept hb26 d0; have d1 := kept hb26 d1; have hx := hx.below hb26; have hy := hy.below hb26; have h1 := h1.below hb26; have h2 := h2.below hb26; have h3 := h3.below hb26; have h4 := h4.below hb26
     go_wp2_with fail
     refine (equal_c h2.sl h5.sl (by rw [(HAP.out _).1]; omega) (by rw [(HEV3.out k j).1]; omega)).mono ?_; rintro e w27 ⟨rfl, hb27⟩
     have hs := hs.below hb27; have hr := hr.below hb27; have d0 := kept hb27 d0; have d1 := kept hb27 d1; have hx := hx.below hb27; have hy := hy.below hb27; have h1 := h1.below hb27; have h2 := h2.below hb27; have h3 := h3.below hb27; have h4 := h4.below hb27; have h5 := h5.below hb27
     rw [<- HGG.out]
     have hbz : Below wr.heap.size wr w27 := bwT
     cases b
     ·go_wp2_with fail
      first | (refine hK _ _ ⟨rfl, ?_⟩; clear hK K) | refine ⟨rfl, ?_⟩
      go_wp2_with fail
      go_ret
      exact ⟨by rw [HK.out, all2_no hlt hlt2 HB.out.symm, Bool.and_false]; rfl, bwC hbx (bwC hby (bwC hb5 hbz))⟩
     ·go_wp2_with fail
      first | (refine hK _ _ ⟨rfl, ?_⟩; clear hK K) | refine ⟨rfl, ?_⟩
      go_wp2_with fail
      go_roundw
      case rel => exact ⟨j + 1, by omega, by go_num, by rw [all_succ, HAL2.out, <- HB.out]; rfl, bwC hb5 hbz⟩
      case measure => simp [intOf]; omega
    ·obtain rfl : j = n := by omega
     have HAL2 := Lib.hid hal2; clear hal2
     go_wp2_with fail
     go_roundw
     case rel => exact ⟨k + 1, by omega, by go_num, by rw [all_succ, HALL.out, HAL2.out]; rfl, bwC hby hb5⟩
     case measure => simp [intOf]; omega
  ·obtain rfl : k = n := by omega
   have HALL := Lib.hid hall; clear hall
   go_wp2_with fail
   go_ret
   exact ⟨by rw [HK.out, HALL.out, HZ.out]; rfl, bwC hbx hb⟩
set_option maxHeartbeats 4000000 in
theorem saut_c {p : Int} {s m : Value} {st : List Int} {M : List (List Int)} {w : World} (hd : Dok p st) (hs : El w s st) (hr : Re w m M) (hM : matB p (sz st.length) M = true) :
  Calls Tryz.prog 27 #[.agg #[.int .i64 p, s], m] w fun e w' => e = .returned (.bool (autB p st M)) /\ Below w.heap.size w w' := by
 have hp1 := hd.hp.lo; have hp2 := hd.hp.hi; have hl3 := hd.hl; have hsz := sz_le hd
 obtain ⟨hMl, hMw⟩ := matB_iff.1 hM
 obtain ⟨a0, c0, rfl, _⟩ := id hs.op
 obtain ⟨ar, cr, rfl, _⟩ := id hr
 have hszc := fun W => ssize_c (w := W) (p := p) (a := a0) (n := st.length) (c := c0) (by omega)
 have hred := fun W h => sreduced_c (w := W) (lists := .slice ar M.length cr) (m := sz st.length) hd.hp hMw h (by omega) (by omega) (by omega)
 have hcol := fun i => colL_ev (by omega) hM i
 have hev3 := fun i j => mulL_ev (p := p) (st := st) (by omega) (hcol i) (hcol j)
 have hxor := fun (i j : Nat) (hi : i < sz st.length) (hj : j < sz st.length) => xor_lt (st := st) hi hj
 have hbf := fun i j => basF_fp (p := p) (st := st) (i := i) (j := j) hd
 have hB : autB p st M = (((List.range (sz st.length)).all fun i => (List.range (sz st.length)).all (autR p st M i)) && decide ((redL p M).length = sz st.length)) := rfl
 have hG : ∀ i k, autR p st M i k = decide (scaleL p (colL M (i ^^^ k)) (basF p st i k) = mulL p st (colL M i) (colL M k)) := fun _ _ => rfl
 have hbl : (basL p st).length = sz st.length := by unfold basL; simp
 have hbw : ∀ r ∈ basL p st, r.length = sz st.length := fun r hr => by
  unfold basL at hr
  obtain ⟨i, _, rfl⟩ := List.mem_map.1 hr
  simp
 have hbg := fun i hi k hk => bas_get (p := p) (st := st) (i := i) (k := k) hi hk
 obtain ⟨G, hG_⟩ : ∃ G, G = autR p st M := ⟨_, rfl⟩
 obtain ⟨F, hF_⟩ : ∃ F, F = basF p st := ⟨_, rfl⟩
 obtain ⟨Rd, hRd⟩ : ∃ Rd, Rd = redL p M := ⟨_, rfl⟩
 simp only [<- hG_] at hB hG
 simp only [<- hF_] at hG hbf hbg
 simp only [<- hRd] at hB hred
 have hRl : Rd.length <= 8 := by
  rw [hRd]
  have h := (redL_rref hd.hp hMw).1
  have := h.short
  omega
 have hMs : M.length = sz st.length := hMl
 obtain ⟨n, hn⟩ : ∃ n, n = sz st.length := ⟨_, rfl⟩
 simp only [<- hn] at hszc hsz hB hG hMs hMw hxor hbl hbw hbg
 have hs8 : sz st.length <= 8 := (sz_le hd).2
 have HN := Lib.hid hn; have HK := Lib.hid hB; have HG := Lib.hid hG; have HCOL := Lib.hid hcol; have HEV3 := Lib.hid hev3; have HML := Lib.hid hMs; have HXR := Lib.hid hxor; have HBF := Lib.hid hbf; have HBL := Lib.hid hbl; have HBW := Lib.hid hbw; have HBG := Lib.hid hbg
 have hMb : M.length <= 8 := by omega
 clear hn hB hG hcol hev3 hMl hMs hxor hbf hbl hbw hbg hG_ hF_ hRd
 go_enter Tryz.func27, Tryz.ntmps27
 have hb0 : Below w.heap.size w (w.alloc (.cells #[.int .i64 p, .slice a0 st.length c0] 26)) := bwT
 have hs := hs.below hb0; have hr := hr.below hb0
 have d0 : (w.alloc (.cells #[.int .i64 p, .slice a0 st.length c0] 26)).cell? ⟨w.heap.size, 0, none⟩ = some (.int .i64 p) := by simp [go_sem]
 have d1 : (w.alloc (.cells #[.int .i64 p, .slice a0 st.length c0] 26)).cell? ⟨w.heap.size, 1, none⟩ = some (.slice a0 st.length c0) := by simp [go_sem]
 go_wp2_with fail
 refine region_flow [(false, [(0, 1), (2, 1), (1, 5)]), (false, [(3, 4), (4, 0), (5, 0)])] (by kernel_rfl) ?_
 refine norm_K fun K hK => ?_
 change wpList _ _ _ [_, _, _] _ _
 have hb1 : Below (w.alloc (.cells #[.int .i64 p, .slice a0 st.length c0] 26)).heap.size (w.alloc (.cells #[.int .i64 p, .slice a0 st.length c0] 26)) (w.alloc (.cells #[.int .i64 p, .slice a0 st.length c0] 26)).drew := bwT
 have hs := hs.below hb1; have hr := hr.below hb1; have d0 := kept hb1 d0; have d1 := kept hb1 d1
 generalize (w.alloc (.cells #[.int .i64 p, .slice a0 st.length c0] 26)).drew = wq at *
 go_wp2_with fail
 refine (sbas_c hd hs).mono ?_; rintro e w2 ⟨vb, rfl, hT0, hb2⟩
 have hs := hs.below hb2; have hr := hr.below hb2; have d0 := kept hb2 d0; have d1 := kept hb2 d1
 go_wp2_with fail
 have hz0 : Below wq.heap.size wq w2 := bwT
 first | (refine hK _ _ ⟨hz0, ?_⟩; clear hK K) | refine ⟨hz0, ?_⟩
 clear hz0
 refine norm_K fun K hK => ?_
 change wpList _ _ _ [_, _, _] _ _
 obtain ⟨bb, ob, cb, rfl, hT1⟩ := Re.tb hT0 HBL.out (by omega) HBW.out
 have hT := hT1.congr (G := F) (fun i hi k hk => HBG.out i hi k hk)
 clear hT1
 go_wp2_with fail
 refine (hszc _).mono ?_; rintro e w3 ⟨rfl, hb3⟩
 have hs := hs.below hb3; have hr := hr.below hb3; have d0 := kept hb3 d0; have d1 := kept hb3 d1; have hT := hT.below hb3
 go_wp2_with fail
 first | (refine hK _ _ ⟨rfl, ?_⟩; clear hK K) | refine ⟨rfl, ?_⟩
 have hbx : Below w.heap.size w w3 := bwT
 clear hT0
 go_wp2_with fail
 go_loopw [7] (fun i wr => ∃ k : Nat, k <= n /\ i = .int .i64 k /\ ((List.range k).all fun i => (List.range n).all (G i)) = true /\ Below w3.heap.size w3 wr) (fun i _ => n - (intOf i).toNat)
 case atStart => exact ⟨0, Nat.zero_le _, rfl, rfl, Below.refl _ _⟩
 case round =>
  obtain ⟨k, hk, rfl, hall, hb⟩ := hrel
  by_cases hlt : k < n
  ·have hs := hs.below hb; have hr := hr.below hb; have d0 := kept hb d0; have d1 := kept hb d1; have hT := hT.below hb
   have HALL := Lib.hid hall; clear hall
   generalize wr = wo at *
   have HS := Lib.hid hs; have HR := Lib.hid hr; have D0 := Lib.hid d0; have D1 := Lib.hid d1; have HT := Lib.hid hT
   clear hs hr d0 d1 hT
   go_wp2_with fail
   go_loopw [8] (fun i wr => ∃ j : Nat, j <= n /\ i = .int .i64 j /\ (List.range j).all (G k) = true /\ Below wo.heap.size wo wr) (fun i _ => n - (intOf i).toNat)
   case atStart => exact ⟨0, Nat.zero_le _, rfl, rfl, Below.refl _ _⟩
   case round =>
    obtain ⟨j, hj, rfl, hal2, hb5⟩ := hrel
    by_cases hlt2 : j < n
    ·have hs := HS.out.below hb5; have hr := HR.out.below hb5; have d0 := kept hb5 D0.out; have d1 := kept hb5 D1.out; have hT := HT.out.below hb5
     obtain ⟨b2, o2, c2, hcb, hcf⟩ := hT k hlt
     have hcj := hcf j hlt2
     have HAL2 := Lib.hid hal2; clear hal2 hT hcf
     have hx := HXR.out k j hlt hlt2
     have hbit := xor_bits k (by omega) j (by omega)
     have hg := HG.out k j
     obtain ⟨x, hx_⟩ : ∃ x, x = k ^^^ j := ⟨_, rfl⟩
     rw [<- hx_] at hx hbit hg
     have hfb := HBF.out k j
     obtain ⟨z, hz_⟩ : ∃ z, z = F k j := ⟨_, rfl⟩
     rw [<- hz_] at hcj hg hfb
     have hcl := fun i (hi : i < n) (r : List Int) (h : r ∈ M) => show i < r.length by have := (hMw r h).1; omega
     have HCL := Lib.hid hcl; clear hcl
     obtain ⟨b, hb_⟩ : ∃ b, b = G k j := ⟨_, rfl⟩
     rw [<- hb_] at hg
     have HGG := Lib.hid hg; have HB := Lib.hid hb_; clear hg hb_ hx_ hz_
     go_wp2_with fail
     go_wp2_with fail
     refine region_flow [(false, [(0, 0), (1, 1), (2, 0), (3, 0), (4, 0), (5, 1), (6, 0), (7, 0), (8, 1), (9, 0), (10, 0), (11, 0), (12, 0), (13, 5)]), (false, [(14, 4), (15, 0)])] (by kernel_rfl) ?_
     refine norm_K fun K hK => ?_
     change wpList _ _ _ [_, _, _, _, _, _, _, _, _, _, _, _, _, _] _ _
     have hb21 : Below wr.heap.size wr wr.drew := bwT
     have hs := hs.below hb21; have hr := hr.below hb21; have d0 := kept hb21 d0; have d1 := kept hb21 d1; have hcb := kept hb21 hcb; have hcj := kept hb21 hcj
     generalize wr.drew = wq at *
     go_wp2_with fail
     refine (scolumn_c hr (HCL.out x hx) (by omega)).mono ?_; rintro e w22 ⟨v1, rfl, h1, hb22⟩
     have hs := hs.below hb22; have hr := hr.below hb22; have d0 := kept hb22 d0; have d1 := kept hb22 d1; have hcb := kept hb22 hcb; have hcj := kept hb22 hcj
     go_wp2_with fail
     have hz0 : Below wq.heap.size wq w22 := bwT
     first | (refine hK _ _ ⟨hz0, ?_⟩; clear hK K) | refine ⟨hz0, ?_⟩
     clear hz0
     refine norm_K fun K hK => ?_
     change wpList _ _ _ [_, _] _ _
     have ex := HCOL.out x
     have EX := Lib.hid ex; clear ex
     go_wp2_with fail
     refine (sscale_c (k := z) (by omega) (by omega) (by omega) (by omega) h1.sl (EX.out.2.sm (by omega) (by omega)) (by rw [EX.out.1]; omega)).mono ?_; rintro e w23 ⟨v2, rfl, h2, hb23⟩
     have hs := hs.below hb23; have hr := hr.below hb23; have d0 := kept hb23 d0; have d1 := kept hb23 d1; have hcb := kept hb23 hcb; have hcj := kept hb23 hcj; have h1 := h1.below hb23
     obtain ⟨gs, ks, rfl, _⟩ := id h2
     go_wp2_with fail
     first | (refine hK _ _ ⟨rfl, ?_⟩; clear hK K) | refine ⟨rfl, ?_⟩
     have hby : Below wr.heap.size wr w23 := bwT
     go_wp2_with fail
     go_wp2_with fail
     refine region_flow [(false, [(0, 0), (1, 1), (2, 0), (3, 0), (5, 0), (6, 0), (4, 5)]), (false, [(7, 5)]), (false, [(8, 4), (9, 4), (10, 0)])] (by kernel_rfl) ?_
     refine norm_K fun K hK => ?_
     change wpList _ _ _ [_, _, _, _, _, _, _] _ _
     have hb44 : Below w23.heap.size w23 w23.drew := bwT
     have hs := hs.below hb44; have hr := hr.below hb44; have d0 := kept hb44 d0; have d1 := kept hb44 d1; have h2 := h2.below hb44
     generalize w23.drew = wv at *
     go_wp2_with fail
     refine (scolumn_c hr (HCL.out k hlt) (by omega)).mono ?_; rintro e w45 ⟨v3, rfl, h3, hb45⟩
     have hs := hs.below hb45; have hr := hr.below hb45; have d0 := kept hb45 d0; have d1 := kept hb45 d1; have h2 := h2.below hb45
     go_wp2_with fail
     have hz0 : Below wv.heap.size wv w45 := bwT
     first | (refine hK _ _ ⟨hz0, ?_⟩; clear hK K) | refine ⟨hz0, ?_⟩
     clear hz0
     refine norm_K fun K hK => ?_
     change wpList _ _ _ [_] _ _
     go_wp2_with fail
     refine (scolumn_c hr (HCL.out j hlt2) (by omega)).mono ?_; rintro e w46 ⟨v4, rfl, h4, hb46⟩
     have hs := hs.below hb46; have hr := hr.below hb46; have d0 := kept hb46 d0; have d1 := kept hb46 d1; have h2 := h2.below hb46; have h3 := h3.below hb46
     go_wp2_with fail
     have hz1 : Below wv.heap.size wv w46 := bwT
     first | (refine hK _ _ ⟨hz1, ?_⟩; clear hK K) | refine ⟨hz1, ?_⟩
     clear hz1
     refine norm_K fun K hK => ?_
     change wpList _ _ _ [_, _, _] _ _
     go_wp2_with fail
     refine (stimes_c hd hs h3.el h4.el (HCOL.out k) (HCOL.out j)).mono ?_; rintro e w47 ⟨v5, rfl, h5, hb47⟩
     have hs := hs.below hb47; have hr := hr.below hb47; have d0 := kept hb47 d0; have d1 := kept hb47 d1; have h2 := h2.below hb47; have h3 := h3.below hb47; have h4 := h4.below hb47
     go_wp2_with fail
     refine (same_c h2.sl h5.sl (by rw [scaleL_len, EX.out.1]; omega) (by rw [(HEV3.out k j).1]; omega)).mono ?_; rintro e w48 ⟨rfl, hb48⟩
     have hs := hs.below hb48; have hr := hr.below hb48; have d0 := kept hb48 d0; have d1 := kept hb48 d1; have h2 := h2.below hb48; have h3 := h3.below hb48; have h4 := h4.below hb48; have h5 := h5.below hb48
     rw [<- HGG.out]
     have hbz : Below w23.heap.size w23 w48 := bwT
     cases b
     ·go_wp2_with fail
      first | (refine hK _ _ ⟨rfl, ?_⟩; clear hK K) | refine ⟨rfl, ?_⟩
      go_wp2_with fail
      go_ret
      exact ⟨by rw [HK.out, all2_no hlt hlt2 HB.out.symm, Bool.false_and]; rfl, bwC hbx (bwC hb (bwC hb5 (bwC hby hbz)))⟩
     ·go_wp2_with fail
      first | (refine hK _ _ ⟨rfl, ?_⟩; clear hK K) | refine ⟨rfl, ?_⟩
      go_wp2_with fail
      go_roundw
      case rel => exact ⟨j + 1, by omega, by go_num, by rw [all_succ, HAL2.out, <- HB.out]; rfl, bwC hb5 (bwC hby hbz)⟩
      case measure => simp [intOf]; omega
    ·obtain rfl : j = n := by omega
     have HAL2 := Lib.hid hal2; clear hal2
     go_wp2_with fail
     go_roundw
     case rel => exact ⟨k + 1, by omega, by go_num, by rw [all_succ, HALL.out, HAL2.out]; rfl, bwC hb hb5⟩
     case measure => simp [intOf]; omega
  ·obtain rfl : k = n := by omega
   have HALL := Lib.hid hall; clear hall
   have hs := hs.below hb; have hr := hr.below hb; have d0 := kept hb d0; have d1 := kept hb d1
   have hcmp : ((Rd.length : Int) == ((k : Nat) : Int)) = decide (Rd.length = k) := by rw [Bool.eq_iff_iff, beq_iff_eq, decide_eq_true_eq]; omega
   have HC := Lib.hid hcmp; clear hcmp
   go_wp2_with fail
   refine (hred _ hr).mono ?_; rintro e w9 ⟨v, rfl, hv, hb9⟩
   obtain ⟨av, cv, rfl, _⟩ := id hv
   go_wp2_with fail
   go_ret
   exact ⟨by rw [HK.out, HALL.out, Bool.true_and, <- HC.out]; rfl, bwC hbx (bwC hb hb9)⟩
end Go.Proofs.YtilgbekffbphgaaGreat
