import Derived.Test.YteaaepbnoiecoaaGreatJbc
import Derived.Test.YteaaepbnoiecoaaGreatJbo
import Derived.Test.YteaaepbnoiecoaaGreatJaw
namespace Go.Proofs.YteaaepbnoiecoaaGreat
open Go.RowKit
section
variable {p : Int} {s x y z : Value} {st xs ys zs : List Int} {w : World}
theorem colsl_succ {F : Nat -> List Int} {k : Nat} : (List.range (k + 1)).map F = (List.range k).map F ++ [F k] := by rw [List.range_succ, List.map_append]; rfl
set_option maxHeartbeats 4000000 in
set_option maxRecDepth 100000 in
theorem left_c (hd : Dok p st) (hs : El w s st) (hx : El w x xs) (ex : Ev p (sz st.length) xs) :
  Calls Tryz.prog 42 #[.agg #[.int .i64 p, s], x] w fun e w' => ∃ v, e = .returned v /\ ReR w' w.heap.size v (unA p st xs) /\ Below w.heap.size w w' := by
 have hp1 : 1 <= p := by have := hd.hp.lo; omega
 have hp2 : 2 <= p := by have := hd.hp.lo; omega
 have h13 := hd.hp.hi; have hsz := sz_le hd; have hl3 := hd.hl
 have e1 : ∀ i, Ev p (sz st.length) (oneL (sz st.length) i) := fun i => ⟨oneL_len, oneL_fp hp2⟩
 obtain ⟨F, hF⟩ : ∃ F : Nat -> List Int, F = fun i => mulL p st xs (oneL (sz st.length) i) := ⟨_, rfl⟩
 have hv : ∀ i, mulL p st xs (oneL (sz st.length) i) = F i := fun i => by rw [hF]
 have hev : ∀ i, Ev p (sz st.length) (F i) := fun i => by rw [<- hv]; exact mulL_ev hp1 ex (e1 _)
 have hun : unA p st xs = trL ((List.range (sz st.length)).map F) (sz st.length) := by rw [hF]; rfl
 rw [hun]
 obtain ⟨a0, c0, rfl, _⟩ := id hs.op
 obtain ⟨a1, c1, rfl, _⟩ := id hx.op
 have hszc := fun W => size_c (w := W) (p := p) (a := a0) (n := st.length) (c := c0) (by omega)
 obtain ⟨n, hn⟩ : ∃ n, n = sz st.length := ⟨_, rfl⟩
 simp only [<- hn] at hszc
 have hn1 : 1 <= n := by omega
 have hn8 : n <= 8 := by omega
 have hevg : ∀ i, Ev p n (F i) := fun i => by rw [hn]; exact hev i
 have htr := fun W m (h : Re W m ((List.range n).map F)) => transp_c (w := W) (n := n) h (fun r hr => by obtain ⟨i, _, rfl⟩ := List.mem_map.1 hr; exact (hevg i).1) (by simp; omega) (by simp; omega) (by omega)
 have hv2 : ∀ i, mulL p st xs (oneL n i) = F i := fun i => by rw [hn]; exact hv i
 have e12 : ∀ i, Ev p (sz st.length) (oneL n i) := fun i => by rw [hn]; exact e1 i
 rw [<- hn]
 have HN := Lib.hid hn; have HV := Lib.hid hv2; have HE1 := Lib.hid e12; clear hn hevg hev hv hun hF e1 hv2 e12
 go_enter Tryz.func42, Tryz.ntmps42
 go_wp2_with fail
 obtain ⟨W0, hW0⟩ : ∃ x, x = (w.alloc (.cells #[.int .i64 p, .slice a0 st.length c0] 26)) := ⟨_, rfl⟩
 have hb0 : Below w.heap.size w W0 := by rw [hW0]; exact bwT
 have hz0 : W0.heap.size = w.heap.size + 1 := by rw [hW0]; simp
 have d0 : W0.cell? ⟨w.heap.size, 0, none⟩ = some (.int .i64 p) := by rw [hW0]; simp [go_sem]
 have d1 : W0.cell? ⟨w.heap.size, 1, none⟩ = some (.slice a0 st.length c0) := by rw [hW0]; simp [go_sem]
 have hl := LsR.new (w := W0) (B := W0.heap.size) (Nat.le_refl _)
 rw [hz0] at hl
 rw [<- hW0]; clear hW0
 have hb1 : Below W0.heap.size W0 (W0.alloc (.cells #[] 24)) := bwT
 have hz1 : (W0.alloc (.cells #[] 24)).heap.size = w.heap.size + 1 + 1 := by simp [hz0]
 rw [hz0] at hb1
 have HZ0 := Lib.hid hz0; clear hz0
 generalize W0.alloc (.cells #[] 24) = W1 at *
 have HZ1 := Lib.hid hz1; clear hz1
 refine (hszc _).mono ?_; rintro e w2 ⟨rfl, hb2⟩
 go_wp2_with fail
 refine (unito_c (by omega) (by omega)).mono ?_; rintro e w3 ⟨g1, k1, rfl, hU, hb3⟩
 have hw13 : Below W1.heap.size W1 w3 := hb2.trans (hb3.mono hb2.size)
 have hl := hl.below hw13
 have hbw : Below (w.heap.size + 1) W0 w3 := hb1.trans (hw13.mono (by rw [HZ1.out]; omega))
 have hU0 : w.heap.size + 1 + 1 <= w2.heap.size := by have := hb2.size; rw [HZ1.out] at this; exact this
 have hw3 : w.heap.size + 1 + 1 <= w3.heap.size := by have := hb3.size; omega
 clear hb1 hb2 hb3 hw13 hszc
 go_wp2_with fail
 go_loopw [5, 13] (fun o q wr => ∃ (k gl cl : Nat) (us : List Value), k <= n /\ q = .int .i64 k /\ o = .slice (some ⟨gl, 0, none⟩) us.length cl /\ (gl = w.heap.size + 1 \/ w3.heap.size <= gl) /\ LsR wr (w.heap.size + 1) (.slice (some ⟨gl, 0, none⟩) us.length cl) us ((List.range k).map F) /\ Chg (w.heap.size + 1) (w.heap.size + 1 + 1) w3 wr) (fun _ q _ => n - (intOf q).toNat)
 case atStart => exact ⟨0, _, _, [], Nat.zero_le _, rfl, rfl, .inl rfl, hl, Chg.refl⟩
 case round =>
  clear hl
  obtain ⟨k, gl, cl, us, hk, rfl, rfl, hgl, hl, hch⟩ := hrel
  have HUL := Lib.hid (show us.length = k by have h := hl.len; simp at h; exact h)
  have hbr : Below (w.heap.size + 1) W0 wr := below_bchg hbw hch (Nat.le_refl _) (by omega)
  have hbo : Below w.heap.size w wr := hb0.trans (hbr.mono (by omega))
  have d0 : wr.cell? ⟨w.heap.size, 0, none⟩ = some (.int .i64 p) := (hbr.cell (p := ⟨w.heap.size, 0, none⟩) (Nat.lt_succ_self _)).trans d0
  have d1 : wr.cell? ⟨w.heap.size, 1, none⟩ = some (.slice a0 st.length c0) := (hbr.cell (p := ⟨w.heap.size, 1, none⟩) (Nat.lt_succ_self _)).trans d1
  by_cases hlt : k < n
  ·have hlti : (k : Int) < n := by omega
   obtain ⟨_, hUj⟩ := hU.chg hch (by omega)
   obtain ⟨gj, cj, hcj, hoj⟩ := hUj k hlt
   have hsW := hs.below hbo
   have hzj := hoj.el
   have hcal := times_c hd hsW (hx.below hbo) hzj ex (HE1.out k)
   rw [HV.out k] at hcal
   have hkk := colsl_succ (F := F) (k := k)
   obtain ⟨J, hJ⟩ : ∃ J, J = F k := ⟨_, rfl⟩
   rw [<- hJ] at hcal hkk
   have HK := Lib.hid hkk
   clear hJ hkk
   go_wp2_with fail
   refine hcal.mono ?_; rintro e w5 ⟨z, rfl, hz, hb5⟩
   have hzn := hl.fresh hz.elr
   have hl5 := hl.below hb5
   have hz5 := hz.elr.more (show w.heap.size + 1 <= wr.heap.size by have := hch.size; omega)
   have hch5 := hch.bl (hb5.mono hch.size)
   have hs5 := hch5.size
   obtain ⟨az, cz, rfl, _⟩ := id hz.el.op
   clear hl hch hz hb5 hcj hoj hzj hUj hcal hsW d0 d1
   go_wp2_with (at_builtin; refine appr_one rfl _ _ rfl w5 (w.heap.size + 1) _ rfl (.slice (some ⟨gl, 0, none⟩) us.length cl) us rfl (.slice az J.length cz) 1 rfl rfl hl5.own (by omega) (by have := HUL.out; omega) ?_; intro g' cap' w8 hown' hgb' hg' hge)
   have hl8 := hl5.snoc hz5 hzn (nv := .slice (some ⟨g', 0, none⟩) (us.length + 1) cap') rfl hown' hgb' hg' hge
   have hch8 := grow_chg (g := gl) hch5 hg' (by rcases hgl with h | h; exact .inl ⟨by omega, by omega⟩; exact .inr h)
   have hgl8 : g' = w.heap.size + 1 \/ w3.heap.size <= g' := by
    rcases hge with h | h
    ·cases h; exact hgl
    ·right; omega
   go_roundw
   case rel => exact ⟨k + 1, g', cap', us ++ [.slice az J.length cz], by omega, by go_num, by rw [List.length_append]; rfl, hgl8, by rw [HK.out, List.length_append]; exact hl8, hch8⟩
   case measure => simp [intOf]; omega
  ·obtain rfl : k = n := by omega
   have hlf : ¬ (k : Int) < k := by omega
   go_wp2_with fail
   refine (htr _ _ hl.rer.re).mono ?_; rintro e w6 ⟨v6, rfl, hv6, hb6⟩
   obtain ⟨a6, c6, rfl⟩ := hv6.shapeA
   go_wp2_with fail
   go_ret
   exact ⟨_, rfl, hv6.more hbo.size, hbo.trans (hb6.mono hbo.size)⟩
set_option maxHeartbeats 4000000 in
set_option maxRecDepth 100000 in
theorem right_c (hd : Dok p st) (hs : El w s st) (hx : El w x xs) (ex : Ev p (sz st.length) xs) :
  Calls Tryz.prog 43 #[.agg #[.int .i64 p, s], x] w fun e w' => ∃ v, e = .returned v /\ ReR w' w.heap.size v (unB p st xs) /\ Below w.heap.size w w' := by
 have hp1 : 1 <= p := by have := hd.hp.lo; omega
 have hp2 : 2 <= p := by have := hd.hp.lo; omega
 have h13 := hd.hp.hi; have hsz := sz_le hd; have hl3 := hd.hl
 have e1 : ∀ i, Ev p (sz st.length) (oneL (sz st.length) i) := fun i => ⟨oneL_len, oneL_fp hp2⟩
 obtain ⟨F, hF⟩ : ∃ F : Nat -> List Int, F = fun i => mulL p st (oneL (sz st.length) i) xs := ⟨_, rfl⟩
 have hv : ∀ i, mulL p st (oneL (sz st.length) i) xs = F i := fun i => by rw [hF]
 have hev : ∀ i, Ev p (sz st.length) (F i) := fun i => by rw [<- hv]; exact mulL_ev hp1 (e1 _) ex
 have hun : unB p st xs = trL ((List.range (sz st.length)).map F) (sz st.length) := by rw [hF]; rfl
 rw [hun]
 obtain ⟨a0, c0, rfl, _⟩ := id hs.op
 obtain ⟨a1, c1, rfl, _⟩ := id hx.op
 have hszc := fun W => size_c (w := W) (p := p) (a := a0) (n := st.length) (c := c0) (by omega)
 obtain ⟨n, hn⟩ : ∃ n, n = sz st.length := ⟨_, rfl⟩
 simp only [<- hn] at hszc
 have hn1 : 1 <= n := by omega
 have hn8 : n <= 8 := by omega
 have hevg : ∀ i, Ev p n (F i) := fun i => by rw [hn]; exact hev i
 have htr := fun W m (h : Re W m ((List.range n).map F)) => transp_c (w := W) (n := n) h (fun r hr => by obtain ⟨i, _, rfl⟩ := List.mem_map.1 hr; exact (hevg i).1) (by simp; omega) (by simp; omega) (by omega)
 have hv2 : ∀ i, mulL p st (oneL n i) xs = F i := fun i => by rw [hn]; exact hv i
 have e12 : ∀ i, Ev p (sz st.length) (oneL n i) := fun i => by rw [hn]; exact e1 i
 rw [<- hn]
 have HN := Lib.hid hn; have HV := Lib.hid hv2; have HE1 := Lib.hid e12; clear hn hevg hev hv hun hF e1 hv2 e12
 go_enter Tryz.func43, Tryz.ntmps43
 go_wp2_with fail
 obtain ⟨W0, hW0⟩ : ∃ x, x = (w.alloc (.cells #[.int .i64 p, .slice a0 st.length c0] 26)) := ⟨_, rfl⟩
 have hb0 : Below w.heap.size w W0 := by rw [hW0]; exact bwT
 have hz0 : W0.heap.size = w.heap.size + 1 := by rw [hW0]; simp
 have d0 : W0.cell? ⟨w.heap.size, 0, none⟩ = some (.int .i64 p) := by rw [hW0]; simp [go_sem]
 have d1 : W0.cell? ⟨w.heap.size, 1, none⟩ = some (.slice a0 st.length c0) := by rw [hW0]; simp [go_sem]
 have hl := LsR.new (w := W0) (B := W0.heap.size) (Nat.le_refl _)
 rw [hz0] at hl
 rw [<- hW0]; clear hW0
 have hb1 : Below W0.heap.size W0 (W0.alloc (.cells #[] 24)) := bwT
 have hz1 : (W0.alloc (.cells #[] 24)).heap.size = w.heap.size + 1 + 1 := by simp [hz0]
 rw [hz0] at hb1
 have HZ0 := Lib.hid hz0; clear hz0
 generalize W0.alloc (.cells #[] 24) = W1 at *
 have HZ1 := Lib.hid hz1; clear hz1
 refine (hszc _).mono ?_; rintro e w2 ⟨rfl, hb2⟩
 go_wp2_with fail
 refine (unito_c (by omega) (by omega)).mono ?_; rintro e w3 ⟨g1, k1, rfl, hU, hb3⟩
 have hw13 : Below W1.heap.size W1 w3 := hb2.trans (hb3.mono hb2.size)
 have hl := hl.below hw13
 have hbw : Below (w.heap.size + 1) W0 w3 := hb1.trans (hw13.mono (by rw [HZ1.out]; omega))
 have hU0 : w.heap.size + 1 + 1 <= w2.heap.size := by have := hb2.size; rw [HZ1.out] at this; exact this
 have hw3 : w.heap.size + 1 + 1 <= w3.heap.size := by have := hb3.size; omega
 clear hb1 hb2 hb3 hw13 hszc
 go_wp2_with fail
 go_loopw [5, 13] (fun o q wr => ∃ (k gl cl : Nat) (us : List Value), k <= n /\ q = .int .i64 k /\ o = .slice (some ⟨gl, 0, none⟩) us.length cl /\ (gl = w.heap.size + 1 \/ w3.heap.size <= gl) /\ LsR wr (w.heap.size + 1) (.slice (some ⟨gl, 0, none⟩) us.length cl) us ((List.range k).map F) /\ Chg (w.heap.size + 1) (w.heap.size + 1 + 1) w3 wr) (fun _ q _ => n - (intOf q).toNat)
 case atStart => exact ⟨0, _, _, [], Nat.zero_le _, rfl, rfl, .inl rfl, hl, Chg.refl⟩
 case round =>
  clear hl
  obtain ⟨k, gl, cl, us, hk, rfl, rfl, hgl, hl, hch⟩ := hrel
  have HUL := Lib.hid (show us.length = k by have h := hl.len; simp at h; exact h)
  have hbr : Below (w.heap.size + 1) W0 wr := below_bchg hbw hch (Nat.le_refl _) (by omega)
  have hbo : Below w.heap.size w wr := hb0.trans (hbr.mono (by omega))
  have d0 : wr.cell? ⟨w.heap.size, 0, none⟩ = some (.int .i64 p) := (hbr.cell (p := ⟨w.heap.size, 0, none⟩) (Nat.lt_succ_self _)).trans d0
  have d1 : wr.cell? ⟨w.heap.size, 1, none⟩ = some (.slice a0 st.length c0) := (hbr.cell (p := ⟨w.heap.size, 1, none⟩) (Nat.lt_succ_self _)).trans d1
  by_cases hlt : k < n
  ·have hlti : (k : Int) < n := by omega
   obtain ⟨_, hUj⟩ := hU.chg hch (by omega)
   obtain ⟨gj, cj, hcj, hoj⟩ := hUj k hlt
   have hsW := hs.below hbo
   have hzj := hoj.el
   have hcal := times_c hd hsW hzj (hx.below hbo) (HE1.out k) ex
   rw [HV.out k] at hcal
   have hkk := colsl_succ (F := F) (k := k)
   obtain ⟨J, hJ⟩ : ∃ J, J = F k := ⟨_, rfl⟩
   rw [<- hJ] at hcal hkk
   have HK := Lib.hid hkk
   clear hJ hkk
   go_wp2_with fail
   refine hcal.mono ?_; rintro e w5 ⟨z, rfl, hz, hb5⟩
   have hzn := hl.fresh hz.elr
   have hl5 := hl.below hb5
   have hz5 := hz.elr.more (show w.heap.size + 1 <= wr.heap.size by have := hch.size; omega)
   have hch5 := hch.bl (hb5.mono hch.size)
   have hs5 := hch5.size
   obtain ⟨az, cz, rfl, _⟩ := id hz.el.op
   clear hl hch hz hb5 hcj hoj hzj hUj hcal hsW d0 d1
   go_wp2_with (at_builtin; refine appr_one rfl _ _ rfl w5 (w.heap.size + 1) _ rfl (.slice (some ⟨gl, 0, none⟩) us.length cl) us rfl (.slice az J.length cz) 1 rfl rfl hl5.own (by omega) (by have := HUL.out; omega) ?_; intro g' cap' w8 hown' hgb' hg' hge)
   have hl8 := hl5.snoc hz5 hzn (nv := .slice (some ⟨g', 0, none⟩) (us.length + 1) cap') rfl hown' hgb' hg' hge
   have hch8 := grow_chg (g := gl) hch5 hg' (by rcases hgl with h | h; exact .inl ⟨by omega, by omega⟩; exact .inr h)
   have hgl8 : g' = w.heap.size + 1 \/ w3.heap.size <= g' := by
    rcases hge with h | h
    ·cases h; exact hgl
    ·right; omega
   go_roundw
   case rel => exact ⟨k + 1, g', cap', us ++ [.slice az J.length cz], by omega, by go_num, by rw [List.length_append]; rfl, hgl8, by rw [HK.out, List.length_append]; exact hl8, hch8⟩
   case measure => simp [intOf]; omega
  ·obtain rfl : k = n := by omega
   have hlf : ¬ (k : Int) < k := by omega
   go_wp2_with fail
   refine (htr _ _ hl.rer.re).mono ?_; rintro e w6 ⟨v6, rfl, hv6, hb6⟩
   obtain ⟨a6, c6, rfl⟩ := hv6.shapeA
   go_wp2_with fail
   go_ret
   exact ⟨_, rfl, hv6.more hbo.size, hbo.trans (hb6.mono hbo.size)⟩
set_option maxRecDepth 100000 in
theorem utf_c {s vb z : Value} {q2 q7 : Nat} {B Z : List Int} (hd : Dok p st) (c20 : w.cell? ⟨q2, 0, none⟩ = some (.int .i64 p)) (c21 : w.cell? ⟨q2, 1, none⟩ = some s) (c70 : w.cell? ⟨q7, 0, none⟩ = some vb)
  (hs : El w s st) (hb : El w vb B) (hz : El w z Z) (eB : Ev p (sz st.length) B) (eZ : Ev p (sz st.length) Z) :
  Calls Tryz.prog 45 #[z, .pointer (some ⟨q2, 0, none⟩), .pointer (some ⟨q7, 0, none⟩)] w fun e w' => ∃ v, e = .returned v /\ FrI w' w.heap.size v (mulL p st (mulL p st B Z) B) /\ Below w.heap.size w w' := by
 obtain ⟨a0, c0, rfl, _⟩ := id hs.op; obtain ⟨a2, c2, rfl, _⟩ := id hb.op; obtain ⟨a3, c3, rfl, _⟩ := id hz.op
 have hp := hd.hp.lo
 have HB := Lib.hid eB; have HZ := Lib.hid eZ
 have HM := Lib.hid (mulL_ev (p := p) (st := st) (by omega) eB eZ)
 clear eB eZ
 go_enter Tryz.func45, Tryz.ntmps45
 have hb0 : Below w.heap.size w w := Below.refl _ _
 go_wp2_with fail
 refine region_flow [(false, [(0, 1), (1, 1), (2, 1), (3, 0), (5, 1), (4, 5)]), (false, [(6, 4), (7, 0)])] (by kernel_rfl) ?_
 refine norm_K fun K hK => ?_
 change wpList _ _ _ [_, _, _, _, _, _] _ _
 have hb21 : Below w.heap.size w w.drew := bwT
 have hs := hs.below hb21; have hb := hb.below hb21; have hz := hz.below hb21; have c20 := kept hb21 c20; have c21 := kept hb21 c21; have c70 := kept hb21 c70
 generalize w.drew = wq at *
 have hbq : Below w.heap.size w wq := by assumption
 go_wp2_with fail
 refine (times_c hd hs hb hz HB.out HZ.out).mono ?_; rintro e w22 ⟨v1, rfl, h1, hb22⟩
 have hs := hs.below hb22; have hb := hb.below hb22; have hz := hz.below hb22; have c20 := kept hb22 c20; have c21 := kept hb22 c21; have c70 := kept hb22 c70
 go_wp2_with fail
 have hz0 : Below wq.heap.size wq w22 := bwT
 first | (refine hK _ _ ⟨hz0, ?_⟩; clear hK K) | refine ⟨hz0, ?_⟩
 clear hz0
 refine norm_K fun K hK => ?_
 change wpList _ _ _ [_, _] _ _
 obtain ⟨a5, c5, rfl, _⟩ := id h1.el.op
 have hbq2 : Below w.heap.size w w22 := bwT
 go_wp2_with fail
 refine (times_c hd hs h1.el hb HM.out HB.out).mono ?_; rintro e w40 ⟨v2, rfl, h2, hb40⟩
 obtain ⟨a6, c6, rfl, _⟩ := id h2.el.op
 go_wp2_with fail
 first | (refine hK _ _ ⟨rfl, ?_⟩; clear hK K) | refine ⟨rfl, ?_⟩
 go_wp2_with fail
 go_ret
 exact ⟨_, rfl, h2.more hbq2.size, hbq2.trans (hb40.mono hbq2.size)⟩
set_option maxHeartbeats 4000000 in
set_option maxRecDepth 100000 in
theorem utmat_c {vb : Value} {q2 q7 : Nat} {B : List Int} (hd : Dok p st) (hs : El w s st) (c20 : w.cell? ⟨q2, 0, none⟩ = some (.int .i64 p)) (c21 : w.cell? ⟨q2, 1, none⟩ = some s) (c70 : w.cell? ⟨q7, 0, none⟩ = some vb) (hbv : El w vb B) (evB : Ev p (sz st.length) B) :
  Calls Tryz.prog 44 #[.agg #[.int .i64 p, s], .func (Fn.func 45) #[] #[.pointer (some ⟨q2, 0, none⟩), .pointer (some ⟨q7, 0, none⟩)]] w fun e w' => ∃ v, e = .returned v /\ ReR w' w.heap.size v (colsM (sz st.length) (unF p st B)) /\ Below w.heap.size w w' := by
 have hp1 : 1 <= p := by have := hd.hp.lo; omega
 have hp2 : 2 <= p := by have := hd.hp.lo; omega
 have h13 := hd.hp.hi; have hsz := sz_le hd; have hl3 := hd.hl
 have e1 : ∀ i, Ev p (sz st.length) (oneL (sz st.length) i) := fun i => ⟨oneL_len, oneL_fp hp2⟩
 obtain ⟨F, hF⟩ : ∃ F : Nat -> List Int, F = fun i => mulL p st (mulL p st B (oneL (sz st.length) i)) B := ⟨_, rfl⟩
 have hv : ∀ i, mulL p st (mulL p st B (oneL (sz st.length) i)) B = F i := fun i => by rw [hF]
 have hev : ∀ i, Ev p (sz st.length) (F i) := fun i => by rw [<- hv]; exact mulL_ev hp1 (mulL_ev hp1 evB (e1 _)) evB
 have hun : colsM (sz st.length) (unF p st B) = trL ((List.range (sz st.length)).map F) (sz st.length) := by rw [hF]; rfl
 rw [hun]
 obtain ⟨a0, c0, rfl, _⟩ := id hs.op
 have hszc := fun W => size_c (w := W) (p := p) (a := a0) (n := st.length) (c := c0) (by omega)
 obtain ⟨n, hn⟩ : ∃ n, n = sz st.length := ⟨_, rfl⟩
 simp only [<- hn] at hszc
 have hn1 : 1 <= n := by omega
 have hn8 : n <= 8 := by omega
 have hevg : ∀ i, Ev p n (F i) := fun i => by rw [hn]; exact hev i
 have htr := fun W m (h : Re W m ((List.range n).map F)) => transp_c (w := W) (n := n) h (fun r hr => by obtain ⟨i, _, rfl⟩ := List.mem_map.1 hr; exact (hevg i).1) (by simp; omega) (by simp; omega) (by omega)
 have hv2 : ∀ i, mulL p st (mulL p st B (oneL n i)) B = F i := fun i => by rw [hn]; exact hv i
 have e12 : ∀ i, Ev p (sz st.length) (oneL n i) := fun i => by rw [hn]; exact e1 i
 rw [<- hn]
 have HN := Lib.hid hn; have HV := Lib.hid hv2; have HE1 := Lib.hid e12; clear hn hevg hev hv hun hF e1 hv2 e12
 go_enter Tryz.func44, Tryz.ntmps44
 go_wp2_with fail
 obtain ⟨W0, hW0⟩ : ∃ x, x = (w.alloc (.cells #[.int .i64 p, .slice a0 st.length c0] 26)) := ⟨_, rfl⟩
 have hb0 : Below w.heap.size w W0 := by rw [hW0]; exact bwT
 have hz0 : W0.heap.size = w.heap.size + 1 := by rw [hW0]; simp
 have d0 : W0.cell? ⟨w.heap.size, 0, none⟩ = some (.int .i64 p) := by rw [hW0]; simp [go_sem]
 have d1 : W0.cell? ⟨w.heap.size, 1, none⟩ = some (.slice a0 st.length c0) := by rw [hW0]; simp [go_sem]
 have hl := LsR.new (w := W0) (B := W0.heap.size) (Nat.le_refl _)
 rw [hz0] at hl
 rw [<- hW0]; clear hW0
 have hb1 : Below W0.heap.size W0 (W0.alloc (.cells #[] 24)) := bwT
 have hz1 : (W0.alloc (.cells #[] 24)).heap.size = w.heap.size + 1 + 1 := by simp [hz0]
 rw [hz0] at hb1
 have HZ0 := Lib.hid hz0; clear hz0
 generalize W0.alloc (.cells #[] 24) = W1 at *
 have HZ1 := Lib.hid hz1; clear hz1
 refine (hszc _).mono ?_; rintro e w2 ⟨rfl, hb2⟩
 go_wp2_with fail
 refine (unito_c (by omega) (by omega)).mono ?_; rintro e w3 ⟨g1, k1, rfl, hU, hb3⟩
 have hw13 : Below W1.heap.size W1 w3 := hb2.trans (hb3.mono hb2.size)
 have hl := hl.below hw13
 have hbw : Below (w.heap.size + 1) W0 w3 := hb1.trans (hw13.mono (by rw [HZ1.out]; omega))
 have hU0 : w.heap.size + 1 + 1 <= w2.heap.size := by have := hb2.size; rw [HZ1.out] at this; exact this
 have hw3 : w.heap.size + 1 + 1 <= w3.heap.size := by have := hb3.size; omega
 clear hb1 hb2 hb3 hw13 hszc
 go_wp2_with fail
 go_loopw [5, 13] (fun o q wr => ∃ (k gl cl : Nat) (us : List Value), k <= n /\ q = .int .i64 k /\ o = .slice (some ⟨gl, 0, none⟩) us.length cl /\ (gl = w.heap.size + 1 \/ w3.heap.size <= gl) /\ LsR wr (w.heap.size + 1) (.slice (some ⟨gl, 0, none⟩) us.length cl) us ((List.range k).map F) /\ Chg (w.heap.size + 1) (w.heap.size + 1 + 1) w3 wr) (fun _ q _ => n - (intOf q).toNat)
 case atStart => exact ⟨0, _, _, [], Nat.zero_le _, rfl, rfl, .inl rfl, hl, Chg.refl⟩
 case round =>
  clear hl
  obtain ⟨k, gl, cl, us, hk, rfl, rfl, hgl, hl, hch⟩ := hrel
  have HUL := Lib.hid (show us.length = k by have h := hl.len; simp at h; exact h)
  have hbr : Below (w.heap.size + 1) W0 wr := below_bchg hbw hch (Nat.le_refl _) (by omega)
  have hbo : Below w.heap.size w wr := hb0.trans (hbr.mono (by omega))
  have d0 : wr.cell? ⟨w.heap.size, 0, none⟩ = some (.int .i64 p) := (hbr.cell (p := ⟨w.heap.size, 0, none⟩) (Nat.lt_succ_self _)).trans d0
  have d1 : wr.cell? ⟨w.heap.size, 1, none⟩ = some (.slice a0 st.length c0) := (hbr.cell (p := ⟨w.heap.size, 1, none⟩) (Nat.lt_succ_self _)).trans d1
  by_cases hlt : k < n
  ·have hlti : (k : Int) < n := by omega
   obtain ⟨_, hUj⟩ := hU.chg hch (by omega)
   obtain ⟨gj, cj, hcj, hoj⟩ := hUj k hlt
   have hsW := hs.below hbo
   have hzj := hoj.el
   have hcal := utf_c hd (kept hbo c20) (kept hbo c21) (kept hbo c70) hsW (hbv.below hbo) hzj evB (HE1.out k)
   rw [HV.out k] at hcal
   have hkk := colsl_succ (F := F) (k := k)
   obtain ⟨J, hJ⟩ : ∃ J, J = F k := ⟨_, rfl⟩
   rw [<- hJ] at hcal hkk
   have HK := Lib.hid hkk
   clear hJ hkk
   go_wp2_with fail
   refine hcal.mono ?_; rintro e w5 ⟨z, rfl, hz, hb5⟩
   have hzn := hl.fresh hz.elr
   have hl5 := hl.below hb5
   have hz5 := hz.elr.more (show w.heap.size + 1 <= wr.heap.size by have := hch.size; omega)
   have hch5 := hch.bl (hb5.mono hch.size)
   have hs5 := hch5.size
   obtain ⟨az, cz, rfl, _⟩ := id hz.el.op
   clear hl hch hz hb5 hcj hoj hzj hUj hcal hsW d0 d1
   go_wp2_with (at_builtin; refine appr_one rfl _ _ rfl w5 (w.heap.size + 1) _ rfl (.slice (some ⟨gl, 0, none⟩) us.length cl) us rfl (.slice az J.length cz) 1 rfl rfl hl5.own (by omega) (by have := HUL.out; omega) ?_; intro g' cap' w8 hown' hgb' hg' hge)
   have hl8 := hl5.snoc hz5 hzn (nv := .slice (some ⟨g', 0, none⟩) (us.length + 1) cap') rfl hown' hgb' hg' hge
   have hch8 := grow_chg (g := gl) hch5 hg' (by rcases hgl with h | h; exact .inl ⟨by omega, by omega⟩; exact .inr h)
   have hgl8 : g' = w.heap.size + 1 \/ w3.heap.size <= g' := by
    rcases hge with h | h
    ·cases h; exact hgl
    ·right; omega
   go_roundw
   case rel => exact ⟨k + 1, g', cap', us ++ [.slice az J.length cz], by omega, by go_num, by rw [List.length_append]; rfl, hgl8, by rw [HK.out, List.length_append]; exact hl8, hch8⟩
   case measure => simp [intOf]; omega
  ·obtain rfl : k = n := by omega
   have hlf : ¬ (k : Int) < k := by omega
   go_wp2_with fail
   refine (htr _ _ hl.rer.re).mono ?_; rintro e w6 ⟨v6, rfl, hv6, hb6⟩
   obtain ⟨a6, c6, rfl⟩ := hv6.shapeA
   go_wp2_with fail
   go_ret
   exact ⟨_, rfl, hv6.more hbo.size, hbo.trans (hb6.mono hbo.size)⟩
theorem dotL_comm {xs ys : List Int} : dotL p xs ys = dotL p ys xs := by unfold dotL; rw [dotS_comm]
theorem mulM_row {n : Nat} {B : List (List Int)} {r : List Int} : applyL p (trL B n) r = (List.range n).map fun j => dotL p r (colL B j) := by
 unfold applyL trL
 rw [List.map_map]
 exact List.map_congr_left fun j _ => dotL_comm
theorem mulM_succ {n : Nat} {A B : List (List Int)} {k : Nat} {r : List Int} (h : A.take (k + 1) = A.take k ++ [r]) : mulM p n (A.take (k + 1)) B = mulM p n (A.take k) B ++ [applyL p (trL B n) r] := by
 unfold mulM
 rw [h, List.map_append, mulM_row]; rfl
theorem mulM_len {n : Nat} {A B : List (List Int)} : (mulM p n A B).length = A.length := by unfold mulM; simp
set_option maxHeartbeats 4000000 in
theorem ftimes_c {a b : Value} {A B : List (List Int)} {m : Nat} (hp : 1 <= p) (hp2 : p <= 13) (hm1 : 1 <= m) (hm8 : m <= 8) (hA : Re w a A) (hB : Re w b B) (mA : matB p m A = true) (mB : matB p m B = true) :
  Calls Tryz.prog 51 #[.int .i64 p, a, b] w fun e w' => ∃ v, e = .returned v /\ ReR w' w.heap.size v (mulM p m A B) /\ Below w.heap.size w w' := by
 obtain ⟨hAl, hAw⟩ := matB_iff.1 mA
 obtain ⟨hBl, hBw⟩ := matB_iff.1 mB
 obtain ⟨ar, cr, rfl, hr1, hr2, hR⟩ := hA
 obtain ⟨ab, oa, rfl, hcell⟩ := hR.resolve_left (fun e => by rw [e] at hAl; simp at hAl; omega)
 obtain ⟨a2, c2, rfl, _⟩ := id hB
 have kt := fun W (h : Re W (.slice a2 B.length c2) B) => transp_c (w := W) (n := m) h (fun r hr => (hBw r hr).1) (by omega) (by omega) (by omega)
 have mT : matB p m (trL B m) = true := matB_iff.2 ⟨trL_len, fun r hr => by
  obtain ⟨i, _, rfl⟩ := List.mem_map.1 hr
  exact colL_ev hp mB i⟩
 obtain ⟨hTl, hTw⟩ := matB_iff.1 mT
 have ka := fun W v u xs (h : Re W v (trL B m)) (hv : El W u xs) (ev : Ev p m xs) => apply_c (w := W) (p := p) (n := m) hp (by omega) h hTw hv ev (by omega) (by omega)
 have HAW := Lib.hid hAw
 have hst : ∀ k r, A.take (k + 1) = A.take k ++ [r] -> mulM p m (A.take (k + 1)) B = mulM p m (A.take k) B ++ [applyL p (trL B m) r] := fun k r h => mulM_succ h
 have hle : ∀ xs, (applyL p (trL B m) xs).length = m := fun xs => by unfold applyL; rw [List.length_map, hTl]
 have hml : ∀ k, k <= A.length -> (mulM p m (A.take k) B).length = k := fun k hk => by rw [mulM_len, List.length_take]; omega
 obtain ⟨Tm_, hTm⟩ : ∃ X, X = trL B m := ⟨_, rfl⟩
 rw [<- hTm] at kt
 simp only [<- hTm] at ka hst hle
 have HST := Lib.hid hst; have HLE := Lib.hid hle; have HML := Lib.hid hml
 clear hTm mT hTl hTw hAw hBw hst hle hml mA mB
 have hAb : A.length <= 8 := by omega
 have HAl := Lib.hid hAl
 clear hAl hBl
 have h0 : mulM p m (A.take 0) B = [] := rfl
 go_enter Tryz.func51, Tryz.ntmps51
 go_wp2_with fail
 refine (kt _ hB).mono ?_; rintro e w2 ⟨vt, rfl, hvt, hb2⟩
 obtain ⟨at_, ct, rfl⟩ := hvt.shapeA
 have hl0 := LsR.new (w := w2) (B := w2.heap.size) (Nat.le_refl _)
 have hbA : Below w2.heap.size w2 (w2.alloc (.cells #[] 24)) := bwT
 go_wp2_with fail
 go_loopw [8, 16] (fun o q wr => ∃ (k : Nat) (us : List Value), k <= A.length /\ q = .int .i64 k /\ LsR wr w2.heap.size o us (mulM p m (A.take k) B) /\ Below w2.heap.size w2 wr) (fun _ q _ => A.length - (intOf q).toNat)
 case atStart => exact ⟨0, [], Nat.zero_le _, rfl, by rw [h0]; exact hl0, hbA⟩
 case round =>
  clear hl0 hbA h0
  obtain ⟨k, us, hk, rfl, hl, hbr⟩ := hrel
  obtain ⟨al, cl, rfl⟩ := hl.form
  have hul := hl.len; rw [HML.out k hk] at hul
  have HUL := Lib.hid hul; clear hul
  by_cases hlt : k < A.length
  ·have hlti : (k : Int) < A.length := by omega
   obtain ⟨a3, c3, t, ht, hc, hE, htk⟩ := Re.get hcell hlt
   have hbw : Below w.heap.size w wr := hb2.trans (hbr.mono hb2.size)
   have hc := kept hbw hc
   have hE := hE.below hbw
   have hev := HAW.out t ht
   have hnext := HST.out k t htk
   have hJl := HLE.out t
   have kk := fun W v u h h' => ka W v u t h h' hev
   obtain ⟨J, hJ⟩ : ∃ J, J = applyL p Tm_ t := ⟨_, rfl⟩
   rw [<- hJ] at hnext hJl
   simp only [<- hJ] at kk
   obtain ⟨I, hI⟩ : ∃ I, I = mulM p m (A.take k) B := ⟨_, rfl⟩
   rw [<- hI] at hl hnext
   have HN := Lib.hid hnext
   have hvt := (hvt.keep hbr.size fun b _ h2 => hbr.block b h2).re
   clear hJ hI hnext htk hev hbw hJl
   generalize wr = wo at *
   go_wp2_with fail
   refine (kk _ _ _ hvt hE).mono ?_; rintro e w4 ⟨v4, rfl, hv4, hb4⟩
   obtain ⟨a4, c4, rfl, _⟩ := id hv4.el.op
   have hzn := hl.fresh hv4.elr
   have hl4 := hl.below hb4
   have hz4 : ElR w4 w2.heap.size _ J := hv4.elr.more hbr.size
   have hb5 := hbr.trans (hb4.mono hbr.size)
   clear hl hE hc hv4 hb4 hvt kk
   go_wp2_with (at_builtin; refine appr_one rfl _ _ rfl w4 w2.heap.size _ rfl (.slice al us.length cl) us rfl (.slice a4 J.length c4) 1 rfl rfl hl4.own hb5.size (by have := HUL.out; omega) ?_; intro g' cap' w8 hown' hgb' hg' hge)
   have hl8 := hl4.snoc hz4 hzn (nv := .slice (some ⟨g', 0, none⟩) (us.length + 1) cap') rfl hown' hgb' hg' hge
   go_roundw
   case rel => exact ⟨k + 1, _, by omega, by go_num, by rw [HN.out]; exact hl8, hb5.trans hgb'⟩
   case measure => simp [intOf]; omega
  ·obtain rfl : k = A.length := by omega
   have hlf : ¬ (A.length : Int) < A.length := by omega
   rw [take_all (Nat.le_refl _)] at hl
   go_wp2_with fail
   go_ret
   exact ⟨_, rfl, hl.rer.more hb2.size, hb2.trans (hbr.mono hb2.size)⟩
end
end Go.Proofs.YteaaepbnoiecoaaGreat
