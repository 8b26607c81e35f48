/-
  The reference's Jordan product, and the pairing.
-/
import Derived.Test.YtgcelfnjijhmkaaGreatHcI
namespace Go.Proofs.YtgcelfnjijhmkaaGreat
open Go.RowKit

theorem half_first {p : Int} {st : List Int} {X Y : Her} {i j : Nat} (h : 0 < (plusL p (eopH p st X Y i j) (eopH p st Y X i j) 1).length) : (halfH p st X Y i j).getD 0 0 = invL p 2 * (plusL p (eopH p st X Y i j) (eopH p st Y X i j) 1).getD 0 0 % p := by
  unfold halfH
  obtain ⟨l, hl⟩ : ∃ l, l = plusL p (eopH p st X Y i j) (eopH p st Y X i j) 1 := ⟨_, rfl⟩
  rw [← hl] at h ⊢
  match l, h with
  | x :: xs, _ => simp [scaleL, Int.mul_comm]
set_option maxHeartbeats 4000000 in
set_option maxRecDepth 100000 in
theorem stimes16_c {p : Int} {s x y : Value} {st : List Int} {X Y : Her} {w : World} (hd : Dok p st) (hs : El w s st) (hx : Hv w x X) (hX : isH p (sz st.length) X = true) (hy : Hv w y Y) (hY : isH p (sz st.length) Y = true) :
    Calls Tryz.prog 69 #[.agg #[.int .i64 p, s], x, y] w fun e w' => ∃ v, e = .returned v ∧ FrH w' w.heap.size v (jordanH p st X Y) ∧ Below w.heap.size w w' := by
  have hp1 := hd.hp.lo
  have hp2 := hd.hp.hi
  have hsz := sz_le hd
  have hl3 := hd.hl
  obtain ⟨a0, c0, rfl, _⟩ := id hs.op
  obtain ⟨dv1, uv1, rfl, hd1_, hu1_⟩ := id hx; obtain ⟨a1, c1, rfl, _⟩ := id hd1_.op; obtain ⟨b1, k1, rfl, _⟩ := id hu1_; clear hd1_ hu1_
  obtain ⟨dv2, uv2, rfl, hd2_, hu2_⟩ := id hy; obtain ⟨a2, c2, rfl, _⟩ := id hd2_.op; obtain ⟨b2, k2, rfl, _⟩ := id hu2_; clear hd2_ hu2_
  rw [jordanH_eq]
  have hv2 := invL_fp (p := p) (a := 2) (by omega)
  have hn1 : ∀ k, k < 3 → ∀ j, j < 3 → Ev p (sz st.length) (plusL p (eopH p st X Y k j) (eopH p st Y X k j) 1) := fun k hk j hj => (eopH_ev (by omega) hX hY hk hj).plus (by omega) (eopH_ev (by omega) hY hX hk hj)
  have hfst : ∀ k, k < 3 → (halfH p st X Y k k).getD 0 0 = invL p 2 * (plusL p (eopH p st X Y k k) (eopH p st Y X k k) 1).getD 0 0 % p := fun k hk => half_first (by rw [(hn1 k hk k hk).1]; omega)
  have hhalf : ∀ i j, halfH p st X Y i j = scaleL p (plusL p (eopH p st X Y i j) (eopH p st Y X i j) 1) (invL p 2) := fun i j => rfl
  obtain ⟨iv, hiv⟩ : ∃ h, h = invL p 2 := ⟨_, rfl⟩
  simp only [← hiv] at hv2 hfst hhalf
  have HIV := Lib.hid hiv; clear hiv
  have HF := Lib.hid hfst; have HH := Lib.hid hhalf; clear hfst hhalf
  go_enter Tryz.func69, Tryz.ntmps69
  have hb0 : Below w.heap.size w ((((w.alloc (.cells #[.int .i64 p, .slice a0 st.length c0] 26)).alloc (.cells #[.slice a1 X.dg.length c1, .slice b1 X.up.length k1] 31)).alloc (.cells #[.slice a2 Y.dg.length c2, .slice b2 Y.up.length k2] 31)).alloc (.cells #[.slice none 0 0, .slice none 0 0] 31)) := (by repeat (first | exact Below.refl _ _ | apply blw_drew | apply blw_alloc | (refine blw_set ?_ (by first | omega | simp <;> omega) _) | refine below_chain ?_ (by assumption)))
  have hs := hs.below hb0; have hx := hx.below hb0; have hy := hy.below hb0
  have d0 : ((((w.alloc (.cells #[.int .i64 p, .slice a0 st.length c0] 26)).alloc (.cells #[.slice a1 X.dg.length c1, .slice b1 X.up.length k1] 31)).alloc (.cells #[.slice a2 Y.dg.length c2, .slice b2 Y.up.length k2] 31)).alloc (.cells #[.slice none 0 0, .slice none 0 0] 31)).cell? ⟨w.heap.size, 0, none⟩ = some (.int .i64 p) := by simp [go_sem]
  have d1 : ((((w.alloc (.cells #[.int .i64 p, .slice a0 st.length c0] 26)).alloc (.cells #[.slice a1 X.dg.length c1, .slice b1 X.up.length k1] 31)).alloc (.cells #[.slice a2 Y.dg.length c2, .slice b2 Y.up.length k2] 31)).alloc (.cells #[.slice none 0 0, .slice none 0 0] 31)).cell? ⟨w.heap.size, 1, none⟩ = some (.slice a0 st.length c0) := by simp [go_sem]
  have e0 : ((((w.alloc (.cells #[.int .i64 p, .slice a0 st.length c0] 26)).alloc (.cells #[.slice a1 X.dg.length c1, .slice b1 X.up.length k1] 31)).alloc (.cells #[.slice a2 Y.dg.length c2, .slice b2 Y.up.length k2] 31)).alloc (.cells #[.slice none 0 0, .slice none 0 0] 31)).cell? ⟨w.heap.size + 1, 0, none⟩ = some (.slice a1 X.dg.length c1) := by simp [go_sem]
  have e1 : ((((w.alloc (.cells #[.int .i64 p, .slice a0 st.length c0] 26)).alloc (.cells #[.slice a1 X.dg.length c1, .slice b1 X.up.length k1] 31)).alloc (.cells #[.slice a2 Y.dg.length c2, .slice b2 Y.up.length k2] 31)).alloc (.cells #[.slice none 0 0, .slice none 0 0] 31)).cell? ⟨w.heap.size + 1, 1, none⟩ = some (.slice b1 X.up.length k1) := by simp [go_sem]
  have f0 : ((((w.alloc (.cells #[.int .i64 p, .slice a0 st.length c0] 26)).alloc (.cells #[.slice a1 X.dg.length c1, .slice b1 X.up.length k1] 31)).alloc (.cells #[.slice a2 Y.dg.length c2, .slice b2 Y.up.length k2] 31)).alloc (.cells #[.slice none 0 0, .slice none 0 0] 31)).cell? ⟨w.heap.size + 1 + 1, 0, none⟩ = some (.slice a2 Y.dg.length c2) := by simp [go_sem]
  have f1 : ((((w.alloc (.cells #[.int .i64 p, .slice a0 st.length c0] 26)).alloc (.cells #[.slice a1 X.dg.length c1, .slice b1 X.up.length k1] 31)).alloc (.cells #[.slice a2 Y.dg.length c2, .slice b2 Y.up.length k2] 31)).alloc (.cells #[.slice none 0 0, .slice none 0 0] 31)).cell? ⟨w.heap.size + 1 + 1, 1, none⟩ = some (.slice b2 Y.up.length k2) := by simp [go_sem]
  have r0 : ((((w.alloc (.cells #[.int .i64 p, .slice a0 st.length c0] 26)).alloc (.cells #[.slice a1 X.dg.length c1, .slice b1 X.up.length k1] 31)).alloc (.cells #[.slice a2 Y.dg.length c2, .slice b2 Y.up.length k2] 31)).alloc (.cells #[.slice none 0 0, .slice none 0 0] 31)).cell? ⟨w.heap.size + 1 + 1 + 1, 0, none⟩ = some (.slice none 0 0) := by simp [go_sem]
  have r1 : ((((w.alloc (.cells #[.int .i64 p, .slice a0 st.length c0] 26)).alloc (.cells #[.slice a1 X.dg.length c1, .slice b1 X.up.length k1] 31)).alloc (.cells #[.slice a2 Y.dg.length c2, .slice b2 Y.up.length k2] 31)).alloc (.cells #[.slice none 0 0, .slice none 0 0] 31)).cell? ⟨w.heap.size + 1 + 1 + 1, 1, none⟩ = some (.slice none 0 0) := by simp [go_sem]
  have hr : Bx ((((w.alloc (.cells #[.int .i64 p, .slice a0 st.length c0] 26)).alloc (.cells #[.slice a1 X.dg.length c1, .slice b1 X.up.length k1] 31)).alloc (.cells #[.slice a2 Y.dg.length c2, .slice b2 Y.up.length k2] 31)).alloc (.cells #[.slice none 0 0, .slice none 0 0] 31)) (w.heap.size + 1 + 1 + 1) (.slice none 0 0) (.slice none 0 0) := by rw [show w.heap.size + 1 + 1 + 1 = (((w.alloc (.cells #[.int .i64 p, .slice a0 st.length c0] 26)).alloc (.cells #[.slice a1 X.dg.length c1, .slice b1 X.up.length k1] 31)).alloc (.cells #[.slice a2 Y.dg.length c2, .slice b2 Y.up.length k2] 31)).heap.size by simp]; exact heap_alloc_new _ _
  go_wp2_with fail
  refine (sinv_c hd.hp (by omega) (by omega)).mono ?_; rintro e w1 ⟨rfl, rfl⟩
  rw [← HIV.out]
  have hbw0 : Below w.heap.size w ((((w.alloc (.cells #[.int .i64 p, .slice a0 st.length c0] 26)).alloc (.cells #[.slice a1 X.dg.length c1, .slice b1 X.up.length k1] 31)).alloc (.cells #[.slice a2 Y.dg.length c2, .slice b2 Y.up.length k2] 31)).alloc (.cells #[.slice none 0 0, .slice none 0 0] 31)) := (by repeat (first | exact Below.refl _ _ | apply blw_drew | apply blw_alloc | (refine blw_set ?_ (by first | omega | simp <;> omega) _) | refine below_chain ?_ (by assumption)))
  have hWs : (((((w.alloc (.cells #[.int .i64 p, .slice a0 st.length c0] 26)).alloc (.cells #[.slice a1 X.dg.length c1, .slice b1 X.up.length k1] 31)).alloc (.cells #[.slice a2 Y.dg.length c2, .slice b2 Y.up.length k2] 31)).alloc (.cells #[.slice none 0 0, .slice none 0 0] 31))).heap.size = w.heap.size + 1 + 1 + 1 + 1 := by simp
  go_wp2
  obtain ⟨W0, hW0⟩ : ∃ W, W = ((((w.alloc (.cells #[.int .i64 p, .slice a0 st.length c0] 26)).alloc (.cells #[.slice a1 X.dg.length c1, .slice b1 X.up.length k1] 31)).alloc (.cells #[.slice a2 Y.dg.length c2, .slice b2 Y.up.length k2] 31)).alloc (.cells #[.slice none 0 0, .slice none 0 0] 31)) := ⟨_, rfl⟩
  rw [← hW0] at hbw0 hs hx hy d0 d1 e0 e1 f0 f1 hr hWs ⊢
  clear hW0
  have HN := Lib.hid (show W0.heap.size ≤ (w.heap.size + 1 + 1 + 1 + 1) + 1 by omega)
  have HM := Lib.hid (show W0.heap.size ≤ (w.heap.size + 1 + 1 + 1 + 1) by omega)
  have hWs2 := hWs
  have hs_ := hs
  have hx_ := hx
  have hy_ := hy
  have d0_ := d0
  have d1_ := d1
  have e0_ := e0
  have e1_ := e1
  have f0_ := f0
  have f1_ := f1
  have hr_ := hr
  go_loopw [9] (fun i wr => ∃ (k : Nat) (dv uv : Value) (us : List Value), k ≤ 3 ∧ i = .int .i64 k ∧ Out wr (w.heap.size + 1 + 1 + 1 + 1) dv uv us (jdgS p st X Y k) (jupS p st X Y k) ∧ Below W0.heap.size W0 wr) (fun i _ => 3 - (intOf i).toNat)
  case atStart => exact ⟨0, _, _, [], by omega, rfl, Out.start (by unfold Bx; rw [← hWs]; exact heap_alloc_new _ _), (by repeat (first | exact Below.refl _ _ | apply blw_drew | apply blw_alloc | (refine blw_set ?_ (by first | omega | simp <;> omega) _) | refine below_chain ?_ (by assumption)))⟩
  case round =>
    obtain ⟨k, dv, uv, us, hk, rfl, ho, hb⟩ := hrel
    have HD := Lib.hid (jdgS_len (p := p) (st := st) (X := X) (Y := Y) k)
    have HU := Lib.hid (ho.ul.trans (jupS_len k))
    rcases (show k = 0 ∨ k = 1 ∨ k = 2 ∨ k = 3 by omega) with rfl | rfl | rfl | rfl
    · skip
      have hs := hs_.below hb
      have hx := hx_.below hb
      have hy := hy_.below hb
      have d0 := kept hb d0_
      have d1 := kept hb d1_
      have e0 := kept hb e0_
      have e1 := kept hb e1_
      have f0 := kept hb f0_
      have f1 := kept hb f1_
      have hr := hr_.below hb
      have hrw := hb.size
      have x1 := eopH_ev (p := p) (st := st) (X := X) (Y := Y) (i := 0) (j := 0) (by omega) hX hY (by omega) (by omega)
      have x2 := eopH_ev (p := p) (st := st) (X := Y) (Y := X) (i := 0) (j := 0) (by omega) hY hX (by omega) (by omega)
      have x3 := hn1 0 (by omega) 0 (by omega)
      have S1 := x1.sm (M := 1000000) (by omega) (by omega)
      have S2 := x2.sm (M := 1000000) (by omega) (by omega)
      have S3 := x3.sm (M := 1000000) (by omega) (by omega)
      have hq0 := x3.2.g0 (by omega) 0
      have L1 := Lib.hid x1.1
      have L2 := Lib.hid x2.1
      have L3 := Lib.hid x3.1
      clear x1 x2 x3
      obtain ⟨q, hq⟩ : ∃ q, q = (plusL p (eopH p st X Y 0 0) (eopH p st Y X 0 0) 1).getD 0 0 := ⟨_, rfl⟩
      rw [← hq] at hq0
      have hm := mulb (k := iv) (y := q) (A := 13) (B := 13) (by omega) (by omega) (by omega) (by omega)
      have HQ := Lib.hid hq; clear hq
      go_wp2
      go_wp2_with fail
      refine region_flow [(false, [(0, 0), (1, 1), (2, 1), (3, 1), (4, 1), (5, 0), (6, 0), (8, 1), (9, 1), (10, 1), (11, 0), (12, 0), (7, 5)]), (false, [(13, 5)]), (false, [(14, 4), (15, 0)])] (by kernel_rfl) ?_
      refine norm_K fun K hK => ?_
      change wpList _ _ _ [_, _, _, _, _, _, _, _, _, _, _, _, _] _ _
      have hb21 : Below wr.heap.size wr wr.drew := (by repeat (first | exact Below.refl _ _ | apply blw_drew | apply blw_alloc | (refine blw_set ?_ (by first | omega | simp <;> omega) _) | refine below_chain ?_ (by assumption)))
      have hs := hs.below hb21; have hx := hx.below hb21; have hy := hy.below hb21; have hr := hr.below hb21; have d0 := kept hb21 d0; have d1 := kept hb21 d1; have e0 := kept hb21 e0; have e1 := kept hb21 e1; have f0 := kept hb21 f0; have f1 := kept hb21 f1; have ho := ho.below hb21
      go_wp2_with fail
      refine (seop_c (ii := 0) (jj := 0) hd hs hx hX hy hY (by omega) (by omega)).mono ?_; rintro e w22 ⟨v1, rfl, h1, hb22⟩
      have hs := hs.below hb22; have hx := hx.below hb22; have hy := hy.below hb22; have hr := hr.below hb22; have d0 := kept hb22 d0; have d1 := kept hb22 d1; have e0 := kept hb22 e0; have e1 := kept hb22 e1; have f0 := kept hb22 f0; have f1 := kept hb22 f1; have ho := ho.below hb22
      go_wp2_with fail
      have hz0 : Below wr.drew.heap.size wr.drew w22 := (by repeat (first | exact Below.refl _ _ | apply blw_drew | apply blw_alloc | (refine blw_set ?_ (by first | omega | simp <;> omega) _) | refine below_chain ?_ (by assumption)))
      first | (refine hK _ _ ⟨hz0, ?_⟩; clear hK K) | refine ⟨hz0, ?_⟩
      clear hz0
      refine norm_K fun K hK => ?_
      change wpList _ _ _ [_] _ _
      go_wp2_with fail
      refine (seop_c (ii := 0) (jj := 0) hd hs hy hY hx hX (by omega) (by omega)).mono ?_; rintro e w23 ⟨v2, rfl, h2, hb23⟩
      have hs := hs.below hb23; have hx := hx.below hb23; have hy := hy.below hb23; have hr := hr.below hb23; have d0 := kept hb23 d0; have d1 := kept hb23 d1; have e0 := kept hb23 e0; have e1 := kept hb23 e1; have f0 := kept hb23 f0; have f1 := kept hb23 f1; have ho := ho.below hb23; have h1 := h1.below hb23
      go_wp2_with fail
      have hz1 : Below wr.drew.heap.size wr.drew w23 := (by repeat (first | exact Below.refl _ _ | apply blw_drew | apply blw_alloc | (refine blw_set ?_ (by first | omega | simp <;> omega) _) | refine below_chain ?_ (by assumption)))
      first | (refine hK _ _ ⟨hz1, ?_⟩; clear hK K) | refine ⟨hz1, ?_⟩
      clear hz1
      refine norm_K fun K hK => ?_
      change wpList _ _ _ [_, _] _ _
      go_wp2_with fail
      refine (sadd_c (by omega) (by omega) h1.sl h2.sl S1 S2 (by rw [L1.out, L2.out]) (by have := L1.out; omega)).mono ?_; rintro e w24 ⟨v3, rfl, ⟨g3, cap3, rfl, h3⟩, hb24⟩
      have hs := hs.below hb24; have hx := hx.below hb24; have hy := hy.below hb24; have hr := hr.below hb24; have d0 := kept hb24 d0; have d1 := kept hb24 d1; have e0 := kept hb24 e0; have e1 := kept hb24 e1; have f0 := kept hb24 f0; have f1 := kept hb24 f1; have ho := ho.below hb24; have h1 := h1.below hb24; have h2 := h2.below hb24
      rw [L3.out] at h3 ⊢
      have hc := h3.hold (i := 0) (by omega)
      rw [← HQ.out] at hc
      go_wp2_with fail
      first | (refine hK _ _ ⟨rfl, ?_⟩; clear hK K) | refine ⟨rfl, ?_⟩
      have bc0 := ho.bx.c0
      go_wp2_with fail
      refine region_flow [(false, [(0, 0), (1, 1), (2, 0), (3, 1), (4, 0), (5, 0), (6, 0), (7, 1), (8, 0), (9, 5)]), (false, [(10, 5)]), (false, [(11, 4), (12, 0), (13, 4)])] (by kernel_rfl) ?_
      refine norm_K fun K hK => ?_
      change wpList _ _ _ [_, _, _, _, _, _, _, _, _, _] _ _
      have hb25 : Below w24.heap.size w24 w24.drew := (by repeat (first | exact Below.refl _ _ | apply blw_drew | apply blw_alloc | (refine blw_set ?_ (by first | omega | simp <;> omega) _) | refine below_chain ?_ (by assumption)))
      have hs := hs.below hb25; have hx := hx.below hb25; have hy := hy.below hb25; have hr := hr.below hb25; have d0 := kept hb25 d0; have d1 := kept hb25 d1; have e0 := kept hb25 e0; have e1 := kept hb25 e1; have f0 := kept hb25 f0; have f1 := kept hb25 f1; have ho := ho.below hb25; have h1 := h1.below hb25; have h2 := h2.below hb25; have hc := kept hb25 hc; have bc0 := kept hb25 bc0
      generalize w24.drew = wq at *
      go_wp2_with fail
      refine (smod_c (p := p) (n := iv * q) (by omega) (by omega)).mono ?_; rintro e w26 ⟨rfl, rfl⟩
      go_wp2_with fail
      have hz0 : Below wq.heap.size wq wq := (by repeat (first | exact Below.refl _ _ | apply blw_drew | apply blw_alloc | (refine blw_set ?_ (by first | omega | simp <;> omega) _) | refine below_chain ?_ (by assumption)))
      first | (refine hK _ _ ⟨hz0, ?_⟩; clear hK K) | refine ⟨hz0, ?_⟩
      clear hz0
      refine norm_K fun K hK => ?_
      change wpList _ _ _ [_] _ _
      have hoW := ho
      go_wp2_with fail
      have hb27 : Below wq.heap.size wq (wq.alloc (.cells #[.int .i64 (iv * q % p)] 2)) := (by repeat (first | exact Below.refl _ _ | apply blw_drew | apply blw_alloc | (refine blw_set ?_ (by first | omega | simp <;> omega) _) | refine below_chain ?_ (by assumption)))
      have hs := hs.below hb27; have hx := hx.below hb27; have hy := hy.below hb27; have hr := hr.below hb27; have d0 := kept hb27 d0; have d1 := kept hb27 d1; have e0 := kept hb27 e0; have e1 := kept hb27 e1; have f0 := kept hb27 f0; have f1 := kept hb27 f1; have ho := ho.below hb27; have h1 := h1.below hb27; have h2 := h2.below hb27; have hc := kept hb27 hc; have bc0 := kept hb27 bc0
      have hl : OwnI (wq.alloc (.cells #[.int .i64 (iv * q % p)] 2)) wq.heap.size wq.heap.size [(iv * q % p)].length [(iv * q % p)].length [(iv * q % p)] := OwnI.lit (Nat.le_refl _) [(iv * q % p)] (by simp)
      go_wp2_with fail
      have hz1 : Below wq.heap.size wq (wq.alloc (.cells #[.int .i64 (iv * q % p)] 2)) := (by repeat (first | exact Below.refl _ _ | apply blw_drew | apply blw_alloc | (refine blw_set ?_ (by first | omega | simp <;> omega) _) | refine below_chain ?_ (by assumption)))
      first | (refine hK _ _ ⟨hz1, ?_⟩; clear hK K) | refine ⟨hz1, ?_⟩
      clear hz1
      refine norm_K fun K hK => ?_
      change wpList _ _ _ [_, _, _] _ _
      go_wp2_with (at_builtin; refine appn_one rfl _ _ rfl wq ((w.heap.size + 1 + 1 + 1 + 1) + 1) _ rfl dv (jdgS p st X Y 0) rfl (iv * q % p) 1 rfl hoW.od (by have := hoW.bx.lt; simp; omega) (by have := HD.out; omega) ?_; intro g' cap' w' hown' hgb' hg' hge; have bx' := hoW.bx.bl hgb' (Nat.lt_succ_self _); have bc0 := bx'.c0; have bf0 := bx'.f0)
      first | (refine hK _ _ ⟨rfl, ?_⟩; clear hK K) | refine ⟨rfl, ?_⟩
      have hba : Below W0.heap.size W0 (w'.setCell ⟨(w.heap.size + 1 + 1 + 1 + 1), 0, none⟩ (.slice (some ⟨g', 0, none⟩) ((jdgS p st X Y 0).length + 1) cap')) := blw_set ((show Below W0.heap.size W0 wq from below_chain hb (by repeat (first | exact Below.refl _ _ | apply blw_drew | apply blw_alloc | (refine blw_set ?_ (by first | omega | simp <;> omega) _) | refine below_chain ?_ (by assumption)))).trans (hgb'.mono HN.out)) HM.out _
      have ho := hoW.num (nv := .slice (some ⟨g', 0, none⟩) ((jdgS p st X Y 0).length + 1) cap') rfl hown' hgb' hg' hge
      clear bc0 bf0 bx' hown'
      obtain ⟨wa, hwa⟩ : ∃ x, x = w'.setCell ⟨(w.heap.size + 1 + 1 + 1 + 1), 0, none⟩ (.slice (some ⟨g', 0, none⟩) ((jdgS p st X Y 0).length + 1) cap') := ⟨_, rfl⟩
      rw [← hwa] at hba ho ⊢; clear hwa
      have hs := hs_.below hba
      have hx := hx_.below hba
      have hy := hy_.below hba
      have d0 := kept hba d0_
      have d1 := kept hba d1_
      have e0 := kept hba e0_
      have e1 := kept hba e1_
      have f0 := kept hba f0_
      have f1 := kept hba f1_
      have hr := hr_.below hba
      have x1 := eopH_ev (p := p) (st := st) (X := X) (Y := Y) (i := 1) (j := 2) (by omega) hX hY (by omega) (by omega)
      have x2 := eopH_ev (p := p) (st := st) (X := Y) (Y := X) (i := 1) (j := 2) (by omega) hY hX (by omega) (by omega)
      have x3 := hn1 1 (by omega) 2 (by omega)
      have S1 := x1.sm (M := 1000000) (by omega) (by omega)
      have S2 := x2.sm (M := 1000000) (by omega) (by omega)
      have S3 := x3.sm (M := 1000000) (by omega) (by omega)
      have hq0 := x3.2.g0 (by omega) 0
      have L1 := Lib.hid x1.1
      have L2 := Lib.hid x2.1
      have L3 := Lib.hid x3.1
      clear x1 x2 x3
      have bc1 := ho.bx.c1
      go_wp2
      go_wp2_with fail
      refine region_flow [(false, [(0, 0), (1, 1), (2, 1), (3, 1), (4, 1), (5, 0), (6, 0), (8, 1), (9, 1), (10, 1), (11, 0), (12, 0), (7, 5)]), (false, [(13, 5)]), (false, [(14, 4), (15, 0)])] (by kernel_rfl) ?_
      refine norm_K fun K hK => ?_
      change wpList _ _ _ [_, _, _, _, _, _, _, _, _, _, _, _, _] _ _
      have hb21 : Below wa.heap.size wa wa.drew := (by repeat (first | exact Below.refl _ _ | apply blw_drew | apply blw_alloc | (refine blw_set ?_ (by first | omega | simp <;> omega) _) | refine below_chain ?_ (by assumption)))
      have hs := hs.below hb21; have hx := hx.below hb21; have hy := hy.below hb21; have hr := hr.below hb21; have d0 := kept hb21 d0; have d1 := kept hb21 d1; have e0 := kept hb21 e0; have e1 := kept hb21 e1; have f0 := kept hb21 f0; have f1 := kept hb21 f1; have ho := ho.below hb21; have bc1 := kept hb21 bc1
      go_wp2_with fail
      refine (seop_c (ii := 1) (jj := 2) hd hs hx hX hy hY (by omega) (by omega)).mono ?_; rintro e w22 ⟨v1, rfl, h1, hb22⟩
      have hs := hs.below hb22; have hx := hx.below hb22; have hy := hy.below hb22; have hr := hr.below hb22; have d0 := kept hb22 d0; have d1 := kept hb22 d1; have e0 := kept hb22 e0; have e1 := kept hb22 e1; have f0 := kept hb22 f0; have f1 := kept hb22 f1; have ho := ho.below hb22; have bc1 := kept hb22 bc1
      go_wp2_with fail
      have hz0 : Below wa.drew.heap.size wa.drew w22 := (by repeat (first | exact Below.refl _ _ | apply blw_drew | apply blw_alloc | (refine blw_set ?_ (by first | omega | simp <;> omega) _) | refine below_chain ?_ (by assumption)))
      first | (refine hK _ _ ⟨hz0, ?_⟩; clear hK K) | refine ⟨hz0, ?_⟩
      clear hz0
      refine norm_K fun K hK => ?_
      change wpList _ _ _ [_] _ _
      go_wp2_with fail
      refine (seop_c (ii := 1) (jj := 2) hd hs hy hY hx hX (by omega) (by omega)).mono ?_; rintro e w23 ⟨v2, rfl, h2, hb23⟩
      have hs := hs.below hb23; have hx := hx.below hb23; have hy := hy.below hb23; have hr := hr.below hb23; have d0 := kept hb23 d0; have d1 := kept hb23 d1; have e0 := kept hb23 e0; have e1 := kept hb23 e1; have f0 := kept hb23 f0; have f1 := kept hb23 f1; have ho := ho.below hb23; have bc1 := kept hb23 bc1; have h1 := h1.below hb23
      go_wp2_with fail
      have hz1 : Below wa.drew.heap.size wa.drew w23 := (by repeat (first | exact Below.refl _ _ | apply blw_drew | apply blw_alloc | (refine blw_set ?_ (by first | omega | simp <;> omega) _) | refine below_chain ?_ (by assumption)))
      first | (refine hK _ _ ⟨hz1, ?_⟩; clear hK K) | refine ⟨hz1, ?_⟩
      clear hz1
      refine norm_K fun K hK => ?_
      change wpList _ _ _ [_, _] _ _
      go_wp2_with fail
      refine (sadd_c (by omega) (by omega) h1.sl h2.sl S1 S2 (by rw [L1.out, L2.out]) (by have := L1.out; omega)).mono ?_; rintro e w24 ⟨v3, rfl, h3, hb24⟩
      have hs := hs.below hb24; have hx := hx.below hb24; have hy := hy.below hb24; have hr := hr.below hb24; have d0 := kept hb24 d0; have d1 := kept hb24 d1; have e0 := kept hb24 e0; have e1 := kept hb24 e1; have f0 := kept hb24 f0; have f1 := kept hb24 f1; have ho := ho.below hb24; have bc1 := kept hb24 bc1; have h1 := h1.below hb24; have h2 := h2.below hb24
      go_wp2_with fail
      first | (refine hK _ _ ⟨rfl, ?_⟩; clear hK K) | refine ⟨rfl, ?_⟩
      have hoA := ho
      go_wp2_with fail
      refine region_flow [(false, [(0, 0), (1, 1), (2, 0), (3, 1), (4, 0), (5, 0), (6, 5)]), (false, [(7, 5)]), (false, [(8, 4), (9, 0), (10, 4)])] (by kernel_rfl) ?_
      refine norm_K fun K hK => ?_
      change wpList _ _ _ [_, _, _, _, _, _, _] _ _
      have hb25 : Below w24.heap.size w24 w24.drew := (by repeat (first | exact Below.refl _ _ | apply blw_drew | apply blw_alloc | (refine blw_set ?_ (by first | omega | simp <;> omega) _) | refine below_chain ?_ (by assumption)))
      have hs := hs.below hb25; have hx := hx.below hb25; have hy := hy.below hb25; have hr := hr.below hb25; have d0 := kept hb25 d0; have d1 := kept hb25 d1; have e0 := kept hb25 e0; have e1 := kept hb25 e1; have f0 := kept hb25 f0; have f1 := kept hb25 f1; have ho := ho.below hb25; have bc1 := kept hb25 bc1; have h1 := h1.below hb25; have h2 := h2.below hb25; have h3 := h3.below hb25
      have hoF := ho
      go_wp2_with fail
      refine (sscale_c (k := iv) (by omega) (by omega) (by omega) (by omega) h3.sl S3 (by have := L3.out; omega)).mono ?_; rintro e w26 ⟨v4, rfl, hv2, hb26⟩
      have hs := hs.below hb26; have hx := hx.below hb26; have hy := hy.below hb26; have hr := hr.below hb26; have d0 := kept hb26 d0; have d1 := kept hb26 d1; have e0 := kept hb26 e0; have e1 := kept hb26 e1; have f0 := kept hb26 f0; have f1 := kept hb26 f1; have ho := ho.below hb26; have bc1 := kept hb26 bc1; have h1 := h1.below hb26; have h2 := h2.below hb26; have h3 := h3.below hb26
      go_wp2_with fail
      have hz0 : Below w24.drew.heap.size w24.drew w26 := (by repeat (first | exact Below.refl _ _ | apply blw_drew | apply blw_alloc | (refine blw_set ?_ (by first | omega | simp <;> omega) _) | refine below_chain ?_ (by assumption)))
      first | (refine hK _ _ ⟨hz0, ?_⟩; clear hK K) | refine ⟨hz0, ?_⟩
      clear hz0
      refine norm_K fun K hK => ?_
      change wpList _ _ _ [_] _ _
      rw [← HH.out 1 2] at hv2
      have hf := hoF.fresh hv2
      obtain ⟨g2, cap2, rfl, hv2o⟩ := id hv2
      have hoW := ho
      have hb27 : Below w26.heap.size w26 (w26.alloc (.cells #[.slice (some ⟨g2, 0, none⟩) (halfH p st X Y 1 2).length cap2] 24)) := (by repeat (first | exact Below.refl _ _ | apply blw_drew | apply blw_alloc | (refine blw_set ?_ (by first | omega | simp <;> omega) _) | refine below_chain ?_ (by assumption)))
      have hs := hs.below hb27; have hx := hx.below hb27; have hy := hy.below hb27; have hr := hr.below hb27; have d0 := kept hb27 d0; have d1 := kept hb27 d1; have e0 := kept hb27 e0; have e1 := kept hb27 e1; have f0 := kept hb27 f0; have f1 := kept hb27 f1; have ho := ho.below hb27; have bc1 := kept hb27 bc1; have h1 := h1.below hb27; have h2 := h2.below hb27; have h3 := h3.below hb27
      have x0 : (w26.alloc (.cells #[.slice (some ⟨g2, 0, none⟩) (halfH p st X Y 1 2).length cap2] 24)).cell? ⟨w26.heap.size, 0, none⟩ = some (.slice (some ⟨g2, 0, none⟩) (halfH p st X Y 1 2).length cap2) := by simp [go_sem]
      go_wp2_with fail
      have hz1 : Below w24.drew.heap.size w24.drew (w26.alloc (.cells #[.slice (some ⟨g2, 0, none⟩) (halfH p st X Y 1 2).length cap2] 24)) := (by repeat (first | exact Below.refl _ _ | apply blw_drew | apply blw_alloc | (refine blw_set ?_ (by first | omega | simp <;> omega) _) | refine below_chain ?_ (by assumption)))
      first | (refine hK _ _ ⟨hz1, ?_⟩; clear hK K) | refine ⟨hz1, ?_⟩
      clear hz1
      refine norm_K fun K hK => ?_
      change wpList _ _ _ [_, _, _] _ _
      go_wp2_with (at_builtin; refine appr_one rfl _ _ rfl w26 ((w.heap.size + 1 + 1 + 1 + 1) + 1) _ rfl uv us rfl (.slice (some ⟨g2, 0, none⟩) (halfH p st X Y 1 2).length cap2) 1 rfl rfl hoW.ou (by have := hoW.bx.lt; simp; omega) (by have := HU.out; omega) ?_; intro g3 cap3 w3 hown3 hgb3 hg3 hge3; have bx' := hoW.bx.bl hgb3 (Nat.lt_succ_self _); have bc1 := bx'.c1; have bf1 := bx'.f1)
      first | (refine hK _ _ ⟨rfl, ?_⟩; clear hK K) | refine ⟨rfl, ?_⟩
      have hbz : Below W0.heap.size W0 (w3.setCell ⟨(w.heap.size + 1 + 1 + 1 + 1), 1, none⟩ (.slice (some ⟨g3, 0, none⟩) (us.length + 1) cap3)) := blw_set ((show Below W0.heap.size W0 w26 from below_chain hba (by repeat (first | exact Below.refl _ _ | apply blw_drew | apply blw_alloc | (refine blw_set ?_ (by first | omega | simp <;> omega) _) | refine below_chain ?_ (by assumption)))).trans (hgb3.mono HN.out)) HM.out _
      have hz := hoW.row (hv2.more (by simp; have := hoA.bx.lt; omega)) hf.1 hf.2 hown3 hgb3 hg3
      go_wp2_with fail
      go_roundw
      case rel => exact ⟨0 + 1, _, _, _, by omega, rfl, by rw [HQ.out, ← HF.out 0 (by omega)] at hz; exact hz, hbz⟩
      case measure => simp [intOf]
    · skip
      have hs := hs_.below hb
      have hx := hx_.below hb
      have hy := hy_.below hb
      have d0 := kept hb d0_
      have d1 := kept hb d1_
      have e0 := kept hb e0_
      have e1 := kept hb e1_
      have f0 := kept hb f0_
      have f1 := kept hb f1_
      have hr := hr_.below hb
      have hrw := hb.size
      have x1 := eopH_ev (p := p) (st := st) (X := X) (Y := Y) (i := 1) (j := 1) (by omega) hX hY (by omega) (by omega)
      have x2 := eopH_ev (p := p) (st := st) (X := Y) (Y := X) (i := 1) (j := 1) (by omega) hY hX (by omega) (by omega)
      have x3 := hn1 1 (by omega) 1 (by omega)
      have S1 := x1.sm (M := 1000000) (by omega) (by omega)
      have S2 := x2.sm (M := 1000000) (by omega) (by omega)
      have S3 := x3.sm (M := 1000000) (by omega) (by omega)
      have hq0 := x3.2.g0 (by omega) 0
      have L1 := Lib.hid x1.1
      have L2 := Lib.hid x2.1
      have L3 := Lib.hid x3.1
      clear x1 x2 x3
      obtain ⟨q, hq⟩ : ∃ q, q = (plusL p (eopH p st X Y 1 1) (eopH p st Y X 1 1) 1).getD 0 0 := ⟨_, rfl⟩
      rw [← hq] at hq0
      have hm := mulb (k := iv) (y := q) (A := 13) (B := 13) (by omega) (by omega) (by omega) (by omega)
      have HQ := Lib.hid hq; clear hq
      go_wp2
      go_wp2_with fail
      refine region_flow [(false, [(0, 0), (1, 1), (2, 1), (3, 1), (4, 1), (5, 0), (6, 0), (8, 1), (9, 1), (10, 1), (11, 0), (12, 0), (7, 5)]), (false, [(13, 5)]), (false, [(14, 4), (15, 0)])] (by kernel_rfl) ?_
      refine norm_K fun K hK => ?_
      change wpList _ _ _ [_, _, _, _, _, _, _, _, _, _, _, _, _] _ _
      have hb21 : Below wr.heap.size wr wr.drew := (by repeat (first | exact Below.refl _ _ | apply blw_drew | apply blw_alloc | (refine blw_set ?_ (by first | omega | simp <;> omega) _) | refine below_chain ?_ (by assumption)))
      have hs := hs.below hb21; have hx := hx.below hb21; have hy := hy.below hb21; have hr := hr.below hb21; have d0 := kept hb21 d0; have d1 := kept hb21 d1; have e0 := kept hb21 e0; have e1 := kept hb21 e1; have f0 := kept hb21 f0; have f1 := kept hb21 f1; have ho := ho.below hb21
      go_wp2_with fail
      refine (seop_c (ii := 1) (jj := 1) hd hs hx hX hy hY (by omega) (by omega)).mono ?_; rintro e w22 ⟨v1, rfl, h1, hb22⟩
      have hs := hs.below hb22; have hx := hx.below hb22; have hy := hy.below hb22; have hr := hr.below hb22; have d0 := kept hb22 d0; have d1 := kept hb22 d1; have e0 := kept hb22 e0; have e1 := kept hb22 e1; have f0 := kept hb22 f0; have f1 := kept hb22 f1; have ho := ho.below hb22
      go_wp2_with fail
      have hz0 : Below wr.drew.heap.size wr.drew w22 := (by repeat (first | exact Below.refl _ _ | apply blw_drew | apply blw_alloc | (refine blw_set ?_ (by first | omega | simp <;> omega) _) | refine below_chain ?_ (by assumption)))
      first | (refine hK _ _ ⟨hz0, ?_⟩; clear hK K) | refine ⟨hz0, ?_⟩
      clear hz0
      refine norm_K fun K hK => ?_
      change wpList _ _ _ [_] _ _
      go_wp2_with fail
      refine (seop_c (ii := 1) (jj := 1) hd hs hy hY hx hX (by omega) (by omega)).mono ?_; rintro e w23 ⟨v2, rfl, h2, hb23⟩
      have hs := hs.below hb23; have hx := hx.below hb23; have hy := hy.below hb23; have hr := hr.below hb23; have d0 := kept hb23 d0; have d1 := kept hb23 d1; have e0 := kept hb23 e0; have e1 := kept hb23 e1; have f0 := kept hb23 f0; have f1 := kept hb23 f1; have ho := ho.below hb23; have h1 := h1.below hb23
      go_wp2_with fail
      have hz1 : Below wr.drew.heap.size wr.drew w23 := (by repeat (first | exact Below.refl _ _ | apply blw_drew | apply blw_alloc | (refine blw_set ?_ (by first | omega | simp <;> omega) _) | refine below_chain ?_ (by assumption)))
      first | (refine hK _ _ ⟨hz1, ?_⟩; clear hK K) | refine ⟨hz1, ?_⟩
      clear hz1
      refine norm_K fun K hK => ?_
      change wpList _ _ _ [_, _] _ _
      go_wp2_with fail
      refine (sadd_c (by omega) (by omega) h1.sl h2.sl S1 S2 (by rw [L1.out, L2.out]) (by have := L1.out; omega)).mono ?_; rintro e w24 ⟨v3, rfl, ⟨g3, cap3, rfl, h3⟩, hb24⟩
      have hs := hs.below hb24; have hx := hx.below hb24; have hy := hy.below hb24; have hr := hr.below hb24; have d0 := kept hb24 d0; have d1 := kept hb24 d1; have e0 := kept hb24 e0; have e1 := kept hb24 e1; have f0 := kept hb24 f0; have f1 := kept hb24 f1; have ho := ho.below hb24; have h1 := h1.below hb24; have h2 := h2.below hb24
      rw [L3.out] at h3 ⊢
      have hc := h3.hold (i := 0) (by omega)
      rw [← HQ.out] at hc
      go_wp2_with fail
      first | (refine hK _ _ ⟨rfl, ?_⟩; clear hK K) | refine ⟨rfl, ?_⟩
      have bc0 := ho.bx.c0
      go_wp2_with fail
      refine region_flow [(false, [(0, 0), (1, 1), (2, 0), (3, 1), (4, 0), (5, 0), (6, 0), (7, 1), (8, 0), (9, 5)]), (false, [(10, 5)]), (false, [(11, 4), (12, 0), (13, 4)])] (by kernel_rfl) ?_
      refine norm_K fun K hK => ?_
      change wpList _ _ _ [_, _, _, _, _, _, _, _, _, _] _ _
      have hb25 : Below w24.heap.size w24 w24.drew := (by repeat (first | exact Below.refl _ _ | apply blw_drew | apply blw_alloc | (refine blw_set ?_ (by first | omega | simp <;> omega) _) | refine below_chain ?_ (by assumption)))
      have hs := hs.below hb25; have hx := hx.below hb25; have hy := hy.below hb25; have hr := hr.below hb25; have d0 := kept hb25 d0; have d1 := kept hb25 d1; have e0 := kept hb25 e0; have e1 := kept hb25 e1; have f0 := kept hb25 f0; have f1 := kept hb25 f1; have ho := ho.below hb25; have h1 := h1.below hb25; have h2 := h2.below hb25; have hc := kept hb25 hc; have bc0 := kept hb25 bc0
      generalize w24.drew = wq at *
      go_wp2_with fail
      refine (smod_c (p := p) (n := iv * q) (by omega) (by omega)).mono ?_; rintro e w26 ⟨rfl, rfl⟩
      go_wp2_with fail
      have hz0 : Below wq.heap.size wq wq := (by repeat (first | exact Below.refl _ _ | apply blw_drew | apply blw_alloc | (refine blw_set ?_ (by first | omega | simp <;> omega) _) | refine below_chain ?_ (by assumption)))
      first | (refine hK _ _ ⟨hz0, ?_⟩; clear hK K) | refine ⟨hz0, ?_⟩
      clear hz0
      refine norm_K fun K hK => ?_
      change wpList _ _ _ [_] _ _
      have hoW := ho
      go_wp2_with fail
      have hb27 : Below wq.heap.size wq (wq.alloc (.cells #[.int .i64 (iv * q % p)] 2)) := (by repeat (first | exact Below.refl _ _ | apply blw_drew | apply blw_alloc | (refine blw_set ?_ (by first | omega | simp <;> omega) _) | refine below_chain ?_ (by assumption)))
      have hs := hs.below hb27; have hx := hx.below hb27; have hy := hy.below hb27; have hr := hr.below hb27; have d0 := kept hb27 d0; have d1 := kept hb27 d1; have e0 := kept hb27 e0; have e1 := kept hb27 e1; have f0 := kept hb27 f0; have f1 := kept hb27 f1; have ho := ho.below hb27; have h1 := h1.below hb27; have h2 := h2.below hb27; have hc := kept hb27 hc; have bc0 := kept hb27 bc0
      have hl : OwnI (wq.alloc (.cells #[.int .i64 (iv * q % p)] 2)) wq.heap.size wq.heap.size [(iv * q % p)].length [(iv * q % p)].length [(iv * q % p)] := OwnI.lit (Nat.le_refl _) [(iv * q % p)] (by simp)
      go_wp2_with fail
      have hz1 : Below wq.heap.size wq (wq.alloc (.cells #[.int .i64 (iv * q % p)] 2)) := (by repeat (first | exact Below.refl _ _ | apply blw_drew | apply blw_alloc | (refine blw_set ?_ (by first | omega | simp <;> omega) _) | refine below_chain ?_ (by assumption)))
      first | (refine hK _ _ ⟨hz1, ?_⟩; clear hK K) | refine ⟨hz1, ?_⟩
      clear hz1
      refine norm_K fun K hK => ?_
      change wpList _ _ _ [_, _, _] _ _
      go_wp2_with (at_builtin; refine appn_one rfl _ _ rfl wq ((w.heap.size + 1 + 1 + 1 + 1) + 1) _ rfl dv (jdgS p st X Y 1) rfl (iv * q % p) 1 rfl hoW.od (by have := hoW.bx.lt; simp; omega) (by have := HD.out; omega) ?_; intro g' cap' w' hown' hgb' hg' hge; have bx' := hoW.bx.bl hgb' (Nat.lt_succ_self _); have bc0 := bx'.c0; have bf0 := bx'.f0)
      first | (refine hK _ _ ⟨rfl, ?_⟩; clear hK K) | refine ⟨rfl, ?_⟩
      have hba : Below W0.heap.size W0 (w'.setCell ⟨(w.heap.size + 1 + 1 + 1 + 1), 0, none⟩ (.slice (some ⟨g', 0, none⟩) ((jdgS p st X Y 1).length + 1) cap')) := blw_set ((show Below W0.heap.size W0 wq from below_chain hb (by repeat (first | exact Below.refl _ _ | apply blw_drew | apply blw_alloc | (refine blw_set ?_ (by first | omega | simp <;> omega) _) | refine below_chain ?_ (by assumption)))).trans (hgb'.mono HN.out)) HM.out _
      have ho := hoW.num (nv := .slice (some ⟨g', 0, none⟩) ((jdgS p st X Y 1).length + 1) cap') rfl hown' hgb' hg' hge
      clear bc0 bf0 bx' hown'
      obtain ⟨wa, hwa⟩ : ∃ x, x = w'.setCell ⟨(w.heap.size + 1 + 1 + 1 + 1), 0, none⟩ (.slice (some ⟨g', 0, none⟩) ((jdgS p st X Y 1).length + 1) cap') := ⟨_, rfl⟩
      rw [← hwa] at hba ho ⊢; clear hwa
      have hs := hs_.below hba
      have hx := hx_.below hba
      have hy := hy_.below hba
      have d0 := kept hba d0_
      have d1 := kept hba d1_
      have e0 := kept hba e0_
      have e1 := kept hba e1_
      have f0 := kept hba f0_
      have f1 := kept hba f1_
      have hr := hr_.below hba
      have x1 := eopH_ev (p := p) (st := st) (X := X) (Y := Y) (i := 2) (j := 0) (by omega) hX hY (by omega) (by omega)
      have x2 := eopH_ev (p := p) (st := st) (X := Y) (Y := X) (i := 2) (j := 0) (by omega) hY hX (by omega) (by omega)
      have x3 := hn1 2 (by omega) 0 (by omega)
      have S1 := x1.sm (M := 1000000) (by omega) (by omega)
      have S2 := x2.sm (M := 1000000) (by omega) (by omega)
      have S3 := x3.sm (M := 1000000) (by omega) (by omega)
      have hq0 := x3.2.g0 (by omega) 0
      have L1 := Lib.hid x1.1
      have L2 := Lib.hid x2.1
      have L3 := Lib.hid x3.1
      clear x1 x2 x3
      have bc1 := ho.bx.c1
      go_wp2
      go_wp2_with fail
      refine region_flow [(false, [(0, 0), (1, 1), (2, 1), (3, 1), (4, 1), (5, 0), (6, 0), (8, 1), (9, 1), (10, 1), (11, 0), (12, 0), (7, 5)]), (false, [(13, 5)]), (false, [(14, 4), (15, 0)])] (by kernel_rfl) ?_
      refine norm_K fun K hK => ?_
      change wpList _ _ _ [_, _, _, _, _, _, _, _, _, _, _, _, _] _ _
      have hb21 : Below wa.heap.size wa wa.drew := (by repeat (first | exact Below.refl _ _ | apply blw_drew | apply blw_alloc | (refine blw_set ?_ (by first | omega | simp <;> omega) _) | refine below_chain ?_ (by assumption)))
      have hs := hs.below hb21; have hx := hx.below hb21; have hy := hy.below hb21; have hr := hr.below hb21; have d0 := kept hb21 d0; have d1 := kept hb21 d1; have e0 := kept hb21 e0; have e1 := kept hb21 e1; have f0 := kept hb21 f0; have f1 := kept hb21 f1; have ho := ho.below hb21; have bc1 := kept hb21 bc1
      go_wp2_with fail
      refine (seop_c (ii := 2) (jj := 0) hd hs hx hX hy hY (by omega) (by omega)).mono ?_; rintro e w22 ⟨v1, rfl, h1, hb22⟩
      have hs := hs.below hb22; have hx := hx.below hb22; have hy := hy.below hb22; have hr := hr.below hb22; have d0 := kept hb22 d0; have d1 := kept hb22 d1; have e0 := kept hb22 e0; have e1 := kept hb22 e1; have f0 := kept hb22 f0; have f1 := kept hb22 f1; have ho := ho.below hb22; have bc1 := kept hb22 bc1
      go_wp2_with fail
      have hz0 : Below wa.drew.heap.size wa.drew w22 := (by repeat (first | exact Below.refl _ _ | apply blw_drew | apply blw_alloc | (refine blw_set ?_ (by first | omega | simp <;> omega) _) | refine below_chain ?_ (by assumption)))
      first | (refine hK _ _ ⟨hz0, ?_⟩; clear hK K) | refine ⟨hz0, ?_⟩
      clear hz0
      refine norm_K fun K hK => ?_
      change wpList _ _ _ [_] _ _
      go_wp2_with fail
      refine (seop_c (ii := 2) (jj := 0) hd hs hy hY hx hX (by omega) (by omega)).mono ?_; rintro e w23 ⟨v2, rfl, h2, hb23⟩
      have hs := hs.below hb23; have hx := hx.below hb23; have hy := hy.below hb23; have hr := hr.below hb23; have d0 := kept hb23 d0; have d1 := kept hb23 d1; have e0 := kept hb23 e0; have e1 := kept hb23 e1; have f0 := kept hb23 f0; have f1 := kept hb23 f1; have ho := ho.below hb23; have bc1 := kept hb23 bc1; have h1 := h1.below hb23
      go_wp2_with fail
      have hz1 : Below wa.drew.heap.size wa.drew w23 := (by repeat (first | exact Below.refl _ _ | apply blw_drew | apply blw_alloc | (refine blw_set ?_ (by first | omega | simp <;> omega) _) | refine below_chain ?_ (by assumption)))
      first | (refine hK _ _ ⟨hz1, ?_⟩; clear hK K) | refine ⟨hz1, ?_⟩
      clear hz1
      refine norm_K fun K hK => ?_
      change wpList _ _ _ [_, _] _ _
      go_wp2_with fail
      refine (sadd_c (by omega) (by omega) h1.sl h2.sl S1 S2 (by rw [L1.out, L2.out]) (by have := L1.out; omega)).mono ?_; rintro e w24 ⟨v3, rfl, h3, hb24⟩
      have hs := hs.below hb24; have hx := hx.below hb24; have hy := hy.below hb24; have hr := hr.below hb24; have d0 := kept hb24 d0; have d1 := kept hb24 d1; have e0 := kept hb24 e0; have e1 := kept hb24 e1; have f0 := kept hb24 f0; have f1 := kept hb24 f1; have ho := ho.below hb24; have bc1 := kept hb24 bc1; have h1 := h1.below hb24; have h2 := h2.below hb24
      go_wp2_with fail
      first | (refine hK _ _ ⟨rfl, ?_⟩; clear hK K) | refine ⟨rfl, ?_⟩
      have hoA := ho
      go_wp2_with fail
      refine region_flow [(false, [(0, 0), (1, 1), (2, 0), (3, 1), (4, 0), (5, 0), (6, 5)]), (false, [(7, 5)]), (false, [(8, 4), (9, 0), (10, 4)])] (by kernel_rfl) ?_
      refine norm_K fun K hK => ?_
      change wpList _ _ _ [_, _, _, _, _, _, _] _ _
      have hb25 : Below w24.heap.size w24 w24.drew := (by repeat (first | exact Below.refl _ _ | apply blw_drew | apply blw_alloc | (refine blw_set ?_ (by first | omega | simp <;> omega) _) | refine below_chain ?_ (by assumption)))
      have hs := hs.below hb25; have hx := hx.below hb25; have hy := hy.below hb25; have hr := hr.below hb25; have d0 := kept hb25 d0; have d1 := kept hb25 d1; have e0 := kept hb25 e0; have e1 := kept hb25 e1; have f0 := kept hb25 f0; have f1 := kept hb25 f1; have ho := ho.below hb25; have bc1 := kept hb25 bc1; have h1 := h1.below hb25; have h2 := h2.below hb25; have h3 := h3.below hb25
      have hoF := ho
      go_wp2_with fail
      refine (sscale_c (k := iv) (by omega) (by omega) (by omega) (by omega) h3.sl S3 (by have := L3.out; omega)).mono ?_; rintro e w26 ⟨v4, rfl, hv2, hb26⟩
      have hs := hs.below hb26; have hx := hx.below hb26; have hy := hy.below hb26; have hr := hr.below hb26; have d0 := kept hb26 d0; have d1 := kept hb26 d1; have e0 := kept hb26 e0; have e1 := kept hb26 e1; have f0 := kept hb26 f0; have f1 := kept hb26 f1; have ho := ho.below hb26; have bc1 := kept hb26 bc1; have h1 := h1.below hb26; have h2 := h2.below hb26; have h3 := h3.below hb26
      go_wp2_with fail
      have hz0 : Below w24.drew.heap.size w24.drew w26 := (by repeat (first | exact Below.refl _ _ | apply blw_drew | apply blw_alloc | (refine blw_set ?_ (by first | omega | simp <;> omega) _) | refine below_chain ?_ (by assumption)))
      first | (refine hK _ _ ⟨hz0, ?_⟩; clear hK K) | refine ⟨hz0, ?_⟩
      clear hz0
      refine norm_K fun K hK => ?_
      change wpList _ _ _ [_] _ _
      rw [← HH.out 2 0] at hv2
      have hf := hoF.fresh hv2
      obtain ⟨g2, cap2, rfl, hv2o⟩ := id hv2
      have hoW := ho
      have hb27 : Below w26.heap.size w26 (w26.alloc (.cells #[.slice (some ⟨g2, 0, none⟩) (halfH p st X Y 2 0).length cap2] 24)) := (by repeat (first | exact Below.refl _ _ | apply blw_drew | apply blw_alloc | (refine blw_set ?_ (by first | omega | simp <;> omega) _) | refine below_chain ?_ (by assumption)))
      have hs := hs.below hb27; have hx := hx.below hb27; have hy := hy.below hb27; have hr := hr.below hb27; have d0 := kept hb27 d0; have d1 := kept hb27 d1; have e0 := kept hb27 e0; have e1 := kept hb27 e1; have f0 := kept hb27 f0; have f1 := kept hb27 f1; have ho := ho.below hb27; have bc1 := kept hb27 bc1; have h1 := h1.below hb27; have h2 := h2.below hb27; have h3 := h3.below hb27
      have x0 : (w26.alloc (.cells #[.slice (some ⟨g2, 0, none⟩) (halfH p st X Y 2 0).length cap2] 24)).cell? ⟨w26.heap.size, 0, none⟩ = some (.slice (some ⟨g2, 0, none⟩) (halfH p st X Y 2 0).length cap2) := by simp [go_sem]
      go_wp2_with fail
      have hz1 : Below w24.drew.heap.size w24.drew (w26.alloc (.cells #[.slice (some ⟨g2, 0, none⟩) (halfH p st X Y 2 0).length cap2] 24)) := (by repeat (first | exact Below.refl _ _ | apply blw_drew | apply blw_alloc | (refine blw_set ?_ (by first | omega | simp <;> omega) _) | refine below_chain ?_ (by assumption)))
      first | (refine hK _ _ ⟨hz1, ?_⟩; clear hK K) | refine ⟨hz1, ?_⟩
      clear hz1
      refine norm_K fun K hK => ?_
      change wpList _ _ _ [_, _, _] _ _
      go_wp2_with (at_builtin; refine appr_one rfl _ _ rfl w26 ((w.heap.size + 1 + 1 + 1 + 1) + 1) _ rfl uv us rfl (.slice (some ⟨g2, 0, none⟩) (halfH p st X Y 2 0).length cap2) 1 rfl rfl hoW.ou (by have := hoW.bx.lt; simp; omega) (by have := HU.out; omega) ?_; intro g3 cap3 w3 hown3 hgb3 hg3 hge3; have bx' := hoW.bx.bl hgb3 (Nat.lt_succ_self _); have bc1 := bx'.c1; have bf1 := bx'.f1)
      first | (refine hK _ _ ⟨rfl, ?_⟩; clear hK K) | refine ⟨rfl, ?_⟩
      have hbz : Below W0.heap.size W0 (w3.setCell ⟨(w.heap.size + 1 + 1 + 1 + 1), 1, none⟩ (.slice (some ⟨g3, 0, none⟩) (us.length + 1) cap3)) := blw_set ((show Below W0.heap.size W0 w26 from below_chain hba (by repeat (first | exact Below.refl _ _ | apply blw_drew | apply blw_alloc | (refine blw_set ?_ (by first | omega | simp <;> omega) _) | refine below_chain ?_ (by assumption)))).trans (hgb3.mono HN.out)) HM.out _
      have hz := hoW.row (hv2.more (by simp; have := hoA.bx.lt; omega)) hf.1 hf.2 hown3 hgb3 hg3
      go_wp2_with fail
      go_roundw
      case rel => exact ⟨1 + 1, _, _, _, by omega, rfl, by rw [HQ.out, ← HF.out 1 (by omega)] at hz; exact hz, hbz⟩
      case measure => simp [intOf]
    · skip
      have hs := hs_.below hb
      have hx := hx_.below hb
      have hy := hy_.below hb
      have d0 := kept hb d0_
      have d1 := kept hb d1_
      have e0 := kept hb e0_
      have e1 := kept hb e1_
      have f0 := kept hb f0_
      have f1 := kept hb f1_
      have hr := hr_.below hb
      have hrw := hb.size
      have x1 := eopH_ev (p := p) (st := st) (X := X) (Y := Y) (i := 2) (j := 2) (by omega) hX hY (by omega) (by omega)
      have x2 := eopH_ev (p := p) (st := st) (X := Y) (Y := X) (i := 2) (j := 2) (by omega) hY hX (by omega) (by omega)
      have x3 := hn1 2 (by omega) 2 (by omega)
      have S1 := x1.sm (M := 1000000) (by omega) (by omega)
      have S2 := x2.sm (M := 1000000) (by omega) (by omega)
      have S3 := x3.sm (M := 1000000) (by omega) (by omega)
      have hq0 := x3.2.g0 (by omega) 0
      have L1 := Lib.hid x1.1
      have L2 := Lib.hid x2.1
      have L3 := Lib.hid x3.1
      clear x1 x2 x3
      obtain ⟨q, hq⟩ : ∃ q, q = (plusL p (eopH p st X Y 2 2) (eopH p st Y X 2 2) 1).getD 0 0 := ⟨_, rfl⟩
      rw [← hq] at hq0
      have hm := mulb (k := iv) (y := q) (A := 13) (B := 13) (by omega) (by omega) (by omega) (by omega)
      have HQ := Lib.hid hq; clear hq
      go_wp2
      go_wp2_with fail
      refine region_flow [(false, [(0, 0), (1, 1), (2, 1), (3, 1), (4, 1), (5, 0), (6, 0), (8, 1), (9, 1), (10, 1), (11, 0), (12, 0), (7, 5)]), (false, [(13, 5)]), (false, [(14, 4), (15, 0)])] (by kernel_rfl) ?_
      refine norm_K fun K hK => ?_
      change wpList _ _ _ [_, _, _, _, _, _, _, _, _, _, _, _, _] _ _
      have hb21 : Below wr.heap.size wr wr.drew := (by repeat (first | exact Below.refl _ _ | apply blw_drew | apply blw_alloc | (refine blw_set ?_ (by first | omega | simp <;> omega) _) | refine below_chain ?_ (by assumption)))
      have hs := hs.below hb21; have hx := hx.below hb21; have hy := hy.below hb21; have hr := hr.below hb21; have d0 := kept hb21 d0; have d1 := kept hb21 d1; have e0 := kept hb21 e0; have e1 := kept hb21 e1; have f0 := kept hb21 f0; have f1 := kept hb21 f1; have ho := ho.below hb21
      go_wp2_with fail
      refine (seop_c (ii := 2) (jj := 2) hd hs hx hX hy hY (by omega) (by omega)).mono ?_; rintro e w22 ⟨v1, rfl, h1, hb22⟩
      have hs := hs.below hb22; have hx := hx.below hb22; have hy := hy.below hb22; have hr := hr.below hb22; have d0 := kept hb22 d0; have d1 := kept hb22 d1; have e0 := kept hb22 e0; have e1 := kept hb22 e1; have f0 := kept hb22 f0; have f1 := kept hb22 f1; have ho := ho.below hb22
      go_wp2_with fail
      have hz0 : Below wr.drew.heap.size wr.drew w22 := (by repeat (first | exact Below.refl _ _ | apply blw_drew | apply blw_alloc | (refine blw_set ?_ (by first | omega | simp <;> omega) _) | refine below_chain ?_ (by assumption)))
      first | (refine hK _ _ ⟨hz0, ?_⟩; clear hK K) | refine ⟨hz0, ?_⟩
      clear hz0
      refine norm_K fun K hK => ?_
      change wpList _ _ _ [_] _ _
      go_wp2_with fail
      refine (seop_c (ii := 2) (jj := 2) hd hs hy hY hx hX (by omega) (by omega)).mono ?_; rintro e w23 ⟨v2, rfl, h2, hb23⟩
      have hs := hs.below hb23; have hx := hx.below hb23; have hy := hy.below hb23; have hr := hr.below hb23; have d0 := kept hb23 d0; have d1 := kept hb23 d1; have e0 := kept hb23 e0; have e1 := kept hb23 e1; have f0 := kept hb23 f0; have f1 := kept hb23 f1; have ho := ho.below hb23; have h1 := h1.below hb23
      go_wp2_with fail
      have hz1 : Below wr.drew.heap.size wr.drew w23 := (by repeat (first | exact Below.refl _ _ | apply blw_drew | apply blw_alloc | (refine blw_set ?_ (by first | omega | simp <;> omega) _) | refine below_chain ?_ (by assumption)))
      first | (refine hK _ _ ⟨hz1, ?_⟩; clear hK K) | refine ⟨hz1, ?_⟩
      clear hz1
      refine norm_K fun K hK => ?_
      change wpList _ _ _ [_, _] _ _
      go_wp2_with fail
      refine (sadd_c (by omega) (by omega) h1.sl h2.sl S1 S2 (by rw [L1.out, L2.out]) (by have := L1.out; omega)).mono ?_; rintro e w24 ⟨v3, rfl, ⟨g3, cap3, rfl, h3⟩, hb24⟩
      have hs := hs.below hb24; have hx := hx.below hb24; have hy := hy.below hb24; have hr := hr.below hb24; have d0 := kept hb24 d0; have d1 := kept hb24 d1; have e0 := kept hb24 e0; have e1 := kept hb24 e1; have f0 := kept hb24 f0; have f1 := kept hb24 f1; have ho := ho.below hb24; have h1 := h1.below hb24; have h2 := h2.below hb24
      rw [L3.out] at h3 ⊢
      have hc := h3.hold (i := 0) (by omega)
      rw [← HQ.out] at hc
      go_wp2_with fail
      first | (refine hK _ _ ⟨rfl, ?_⟩; clear hK K) | refine ⟨rfl, ?_⟩
      have bc0 := ho.bx.c0
      go_wp2_with fail
      refine region_flow [(false, [(0, 0), (1, 1), (2, 0), (3, 1), (4, 0), (5, 0), (6, 0), (7, 1), (8, 0), (9, 5)]), (false, [(10, 5)]), (false, [(11, 4), (12, 0), (13, 4)])] (by kernel_rfl) ?_
      refine norm_K fun K hK => ?_
      change wpList _ _ _ [_, _, _, _, _, _, _, _, _, _] _ _
      have hb25 : Below w24.heap.size w24 w24.drew := (by repeat (first | exact Below.refl _ _ | apply blw_drew | apply blw_alloc | (refine blw_set ?_ (by first | omega | simp <;> omega) _) | refine below_chain ?_ (by assumption)))
      have hs := hs.below hb25; have hx := hx.below hb25; have hy := hy.below hb25; have hr := hr.below hb25; have d0 := kept hb25 d0; have d1 := kept hb25 d1; have e0 := kept hb25 e0; have e1 := kept hb25 e1; have f0 := kept hb25 f0; have f1 := kept hb25 f1; have ho := ho.below hb25; have h1 := h1.below hb25; have h2 := h2.below hb25; have hc := kept hb25 hc; have bc0 := kept hb25 bc0
      generalize w24.drew = wq at *
      go_wp2_with fail
      refine (smod_c (p := p) (n := iv * q) (by omega) (by omega)).mono ?_; rintro e w26 ⟨rfl, rfl⟩
      go_wp2_with fail
      have hz0 : Below wq.heap.size wq wq := (by repeat (first | exact Below.refl _ _ | apply blw_drew | apply blw_alloc | (refine blw_set ?_ (by first | omega | simp <;> omega) _) | refine below_chain ?_ (by assumption)))
      first | (refine hK _ _ ⟨hz0, ?_⟩; clear hK K) | refine ⟨hz0, ?_⟩
      clear hz0
      refine norm_K fun K hK => ?_
      change wpList _ _ _ [_] _ _
      have hoW := ho
      go_wp2_with fail
      have hb27 : Below wq.heap.size wq (wq.alloc (.cells #[.int .i64 (iv * q % p)] 2)) := (by repeat (first | exact Below.refl _ _ | apply blw_drew | apply blw_alloc | (refine blw_set ?_ (by first | omega | simp <;> omega) _) | refine below_chain ?_ (by assumption)))
      have hs := hs.below hb27; have hx := hx.below hb27; have hy := hy.below hb27; have hr := hr.below hb27; have d0 := kept hb27 d0; have d1 := kept hb27 d1; have e0 := kept hb27 e0; have e1 := kept hb27 e1; have f0 := kept hb27 f0; have f1 := kept hb27 f1; have ho := ho.below hb27; have h1 := h1.below hb27; have h2 := h2.below hb27; have hc := kept hb27 hc; have bc0 := kept hb27 bc0
      have hl : OwnI (wq.alloc (.cells #[.int .i64 (iv * q % p)] 2)) wq.heap.size wq.heap.size [(iv * q % p)].length [(iv * q % p)].length [(iv * q % p)] := OwnI.lit (Nat.le_refl _) [(iv * q % p)] (by simp)
      go_wp2_with fail
      have hz1 : Below wq.heap.size wq (wq.alloc (.cells #[.int .i64 (iv * q % p)] 2)) := (by repeat (first | exact Below.refl _ _ | apply blw_drew | apply blw_alloc | (refine blw_set ?_ (by first | omega | simp <;> omega) _) | refine below_chain ?_ (by assumption)))
      first | (refine hK _ _ ⟨hz1, ?_⟩; clear hK K) | refine ⟨hz1, ?_⟩
      clear hz1
      refine norm_K fun K hK => ?_
      change wpList _ _ _ [_, _, _] _ _
      go_wp2_with (at_builtin; refine appn_one rfl _ _ rfl wq ((w.heap.size + 1 + 1 + 1 + 1) + 1) _ rfl dv (jdgS p st X Y 2) rfl (iv * q % p) 1 rfl hoW.od (by have := hoW.bx.lt; simp; omega) (by have := HD.out; omega) ?_; intro g' cap' w' hown' hgb' hg' hge; have bx' := hoW.bx.bl hgb' (Nat.lt_succ_self _); have bc0 := bx'.c0; have bf0 := bx'.f0)
      first | (refine hK _ _ ⟨rfl, ?_⟩; clear hK K) | refine ⟨rfl, ?_⟩
      have hba : Below W0.heap.size W0 (w'.setCell ⟨(w.heap.size + 1 + 1 + 1 + 1), 0, none⟩ (.slice (some ⟨g', 0, none⟩) ((jdgS p st X Y 2).length + 1) cap')) := blw_set ((show Below W0.heap.size W0 wq from below_chain hb (by repeat (first | exact Below.refl _ _ | apply blw_drew | apply blw_alloc | (refine blw_set ?_ (by first | omega | simp <;> omega) _) | refine below_chain ?_ (by assumption)))).trans (hgb'.mono HN.out)) HM.out _
      have ho := hoW.num (nv := .slice (some ⟨g', 0, none⟩) ((jdgS p st X Y 2).length + 1) cap') rfl hown' hgb' hg' hge
      clear bc0 bf0 bx' hown'
      obtain ⟨wa, hwa⟩ : ∃ x, x = w'.setCell ⟨(w.heap.size + 1 + 1 + 1 + 1), 0, none⟩ (.slice (some ⟨g', 0, none⟩) ((jdgS p st X Y 2).length + 1) cap') := ⟨_, rfl⟩
      rw [← hwa] at hba ho ⊢; clear hwa
      have hs := hs_.below hba
      have hx := hx_.below hba
      have hy := hy_.below hba
      have d0 := kept hba d0_
      have d1 := kept hba d1_
      have e0 := kept hba e0_
      have e1 := kept hba e1_
      have f0 := kept hba f0_
      have f1 := kept hba f1_
      have hr := hr_.below hba
      have x1 := eopH_ev (p := p) (st := st) (X := X) (Y := Y) (i := 0) (j := 1) (by omega) hX hY (by omega) (by omega)
      have x2 := eopH_ev (p := p) (st := st) (X := Y) (Y := X) (i := 0) (j := 1) (by omega) hY hX (by omega) (by omega)
      have x3 := hn1 0 (by omega) 1 (by omega)
      have S1 := x1.sm (M := 1000000) (by omega) (by omega)
      have S2 := x2.sm (M := 1000000) (by omega) (by omega)
      have S3 := x3.sm (M := 1000000) (by omega) (by omega)
      have hq0 := x3.2.g0 (by omega) 0
      have L1 := Lib.hid x1.1
      have L2 := Lib.hid x2.1
      have L3 := Lib.hid x3.1
      clear x1 x2 x3
      have bc1 := ho.bx.c1
      go_wp2
      go_wp2_with fail
      refine region_flow [(false, [(0, 0), (1, 1), (2, 1), (3, 1), (4, 1), (5, 0), (6, 0), (8, 1), (9, 1), (10, 1), (11, 0), (12, 0), (7, 5)]), (false, [(13, 5)]), (false, [(14, 4), (15, 0)])] (by kernel_rfl) ?_
      refine norm_K fun K hK => ?_
      change wpList _ _ _ [_, _, _, _, _, _, _, _, _, _, _, _, _] _ _
      have hb21 : Below wa.heap.size wa wa.drew := (by repeat (first | exact Below.refl _ _ | apply blw_drew | apply blw_alloc | (refine blw_set ?_ (by first | omega | simp <;> omega) _) | refine below_chain ?_ (by assumption)))
      have hs := hs.below hb21; have hx := hx.below hb21; have hy := hy.below hb21; have hr := hr.below hb21; have d0 := kept hb21 d0; have d1 := kept hb21 d1; have e0 := kept hb21 e0; have e1 := kept hb21 e1; have f0 := kept hb21 f0; have f1 := kept hb21 f1; have ho := ho.below hb21; have bc1 := kept hb21 bc1
      go_wp2_with fail
      refine (seop_c (ii := 0) (jj := 1) hd hs hx hX hy hY (by omega) (by omega)).mono ?_; rintro e w22 ⟨v1, rfl, h1, hb22⟩
      have hs := hs.below hb22; have hx := hx.below hb22; have hy := hy.below hb22; have hr := hr.below hb22; have d0 := kept hb22 d0; have d1 := kept hb22 d1; have e0 := kept hb22 e0; have e1 := kept hb22 e1; have f0 := kept hb22 f0; have f1 := kept hb22 f1; have ho := ho.below hb22; have bc1 := kept hb22 bc1
      go_wp2_with fail
      have hz0 : Below wa.drew.heap.size wa.drew w22 := (by repeat (first | exact Below.refl _ _ | apply blw_drew | apply blw_alloc | (refine blw_set ?_ (by first | omega | simp <;> omega) _) | refine below_chain ?_ (by assumption)))
      first | (refine hK _ _ ⟨hz0, ?_⟩; clear hK K) | refine ⟨hz0, ?_⟩
      clear hz0
      refine norm_K fun K hK => ?_
      change wpList _ _ _ [_] _ _
      go_wp2_with fail
      refine (seop_c (ii := 0) (jj := 1) hd hs hy hY hx hX (by omega) (by omega)).mono ?_; rintro e w23 ⟨v2, rfl, h2, hb23⟩
      have hs := hs.below hb23; have hx := hx.below hb23; have hy := hy.below hb23; have hr := hr.below hb23; have d0 := kept hb23 d0; have d1 := kept hb23 d1; have e0 := kept hb23 e0; have e1 := kept hb23 e1; have f0 := kept hb23 f0; have f1 := kept hb23 f1; have ho := ho.below hb23; have bc1 := kept hb23 bc1; have h1 := h1.below hb23
      go_wp2_with fail
      have hz1 : Below wa.drew.heap.size wa.drew w23 := (by repeat (first | exact Below.refl _ _ | apply blw_drew | apply blw_alloc | (refine blw_set ?_ (by first | omega | simp <;> omega) _) | refine below_chain ?_ (by assumption)))
      first | (refine hK _ _ ⟨hz1, ?_⟩; clear hK K) | refine ⟨hz1, ?_⟩
      clear hz1
      refine norm_K fun K hK => ?_
      change wpList _ _ _ [_, _] _ _
      go_wp2_with fail
      refine (sadd_c (by omega) (by omega) h1.sl h2.sl S1 S2 (by rw [L1.out, L2.out]) (by have := L1.out; omega)).mono ?_; rintro e w24 ⟨v3, rfl, h3, hb24⟩
      have hs := hs.below hb24; have hx := hx.below hb24; have hy := hy.below hb24; have hr := hr.below hb24; have d0 := kept hb24 d0; have d1 := kept hb24 d1; have e0 := kept hb24 e0; have e1 := kept hb24 e1; have f0 := kept hb24 f0; have f1 := kept hb24 f1; have ho := ho.below hb24; have bc1 := kept hb24 bc1; have h1 := h1.below hb24; have h2 := h2.below hb24
      go_wp2_with fail
      first | (refine hK _ _ ⟨rfl, ?_⟩; clear hK K) | refine ⟨rfl, ?_⟩
      have hoA := ho
      go_wp2_with fail
      refine region_flow [(false, [(0, 0), (1, 1), (2, 0), (3, 1), (4, 0), (5, 0), (6, 5)]), (false, [(7, 5)]), (false, [(8, 4), (9, 0), (10, 4)])] (by kernel_rfl) ?_
      refine norm_K fun K hK => ?_
      change wpList _ _ _ [_, _, _, _, _, _, _] _ _
      have hb25 : Below w24.heap.size w24 w24.drew := (by repeat (first | exact Below.refl _ _ | apply blw_drew | apply blw_alloc | (refine blw_set ?_ (by first | omega | simp <;> omega) _) | refine below_chain ?_ (by assumption)))
      have hs := hs.below hb25; have hx := hx.below hb25; have hy := hy.below hb25; have hr := hr.below hb25; have d0 := kept hb25 d0; have d1 := kept hb25 d1; have e0 := kept hb25 e0; have e1 := kept hb25 e1; have f0 := kept hb25 f0; have f1 := kept hb25 f1; have ho := ho.below hb25; have bc1 := kept hb25 bc1; have h1 := h1.below hb25; have h2 := h2.below hb25; have h3 := h3.below hb25
      have hoF := ho
      go_wp2_with fail
      refine (sscale_c (k := iv) (by omega) (by omega) (by omega) (by omega) h3.sl S3 (by have := L3.out; omega)).mono ?_; rintro e w26 ⟨v4, rfl, hv2, hb26⟩
      have hs := hs.below hb26; have hx := hx.below hb26; have hy := hy.below hb26; have hr := hr.below hb26; have d0 := kept hb26 d0; have d1 := kept hb26 d1; have e0 := kept hb26 e0; have e1 := kept hb26 e1; have f0 := kept hb26 f0; have f1 := kept hb26 f1; have ho := ho.below hb26; have bc1 := kept hb26 bc1; have h1 := h1.below hb26; have h2 := h2.below hb26; have h3 := h3.below hb26
      go_wp2_with fail
      have hz0 : Below w24.drew.heap.size w24.drew w26 := (by repeat (first | exact Below.refl _ _ | apply blw_drew | apply blw_alloc | (refine blw_set ?_ (by first | omega | simp <;> omega) _) | refine below_chain ?_ (by assumption)))
      first | (refine hK _ _ ⟨hz0, ?_⟩; clear hK K) | refine ⟨hz0, ?_⟩
      clear hz0
      refine norm_K fun K hK => ?_
      change wpList _ _ _ [_] _ _
      rw [← HH.out 0 1] at hv2
      have hf := hoF.fresh hv2
      obtain ⟨g2, cap2, rfl, hv2o⟩ := id hv2
      have hoW := ho
      have hb27 : Below w26.heap.size w26 (w26.alloc (.cells #[.slice (some ⟨g2, 0, none⟩) (halfH p st X Y 0 1).length cap2] 24)) := (by repeat (first | exact Below.refl _ _ | apply blw_drew | apply blw_alloc | (refine blw_set ?_ (by first | omega | simp <;> omega) _) | refine below_chain ?_ (by assumption)))
      have hs := hs.below hb27; have hx := hx.below hb27; have hy := hy.below hb27; have hr := hr.below hb27; have d0 := kept hb27 d0; have d1 := kept hb27 d1; have e0 := kept hb27 e0; have e1 := kept hb27 e1; have f0 := kept hb27 f0; have f1 := kept hb27 f1; have ho := ho.below hb27; have bc1 := kept hb27 bc1; have h1 := h1.below hb27; have h2 := h2.below hb27; have h3 := h3.below hb27
      have x0 : (w26.alloc (.cells #[.slice (some ⟨g2, 0, none⟩) (halfH p st X Y 0 1).length cap2] 24)).cell? ⟨w26.heap.size, 0, none⟩ = some (.slice (some ⟨g2, 0, none⟩) (halfH p st X Y 0 1).length cap2) := by simp [go_sem]
      go_wp2_with fail
      have hz1 : Below w24.drew.heap.size w24.drew (w26.alloc (.cells #[.slice (some ⟨g2, 0, none⟩) (halfH p st X Y 0 1).length cap2] 24)) := (by repeat (first | exact Below.refl _ _ | apply blw_drew | apply blw_alloc | (refine blw_set ?_ (by first | omega | simp <;> omega) _) | refine below_chain ?_ (by assumption)))
      first | (refine hK _ _ ⟨hz1, ?_⟩; clear hK K) | refine ⟨hz1, ?_⟩
      clear hz1
      refine norm_K fun K hK => ?_
      change wpList _ _ _ [_, _, _] _ _
      go_wp2_with (at_builtin; refine appr_one rfl _ _ rfl w26 ((w.heap.size + 1 + 1 + 1 + 1) + 1) _ rfl uv us rfl (.slice (some ⟨g2, 0, none⟩) (halfH p st X Y 0 1).length cap2) 1 rfl rfl hoW.ou (by have := hoW.bx.lt; simp; omega) (by have := HU.out; omega) ?_; intro g3 cap3 w3 hown3 hgb3 hg3 hge3; have bx' := hoW.bx.bl hgb3 (Nat.lt_succ_self _); have bc1 := bx'.c1; have bf1 := bx'.f1)
      first | (refine hK _ _ ⟨rfl, ?_⟩; clear hK K) | refine ⟨rfl, ?_⟩
      have hbz : Below W0.heap.size W0 (w3.setCell ⟨(w.heap.size + 1 + 1 + 1 + 1), 1, none⟩ (.slice (some ⟨g3, 0, none⟩) (us.length + 1) cap3)) := blw_set ((show Below W0.heap.size W0 w26 from below_chain hba (by repeat (first | exact Below.refl _ _ | apply blw_drew | apply blw_alloc | (refine blw_set ?_ (by first | omega | simp <;> omega) _) | refine below_chain ?_ (by assumption)))).trans (hgb3.mono HN.out)) HM.out _
      have hz := hoW.row (hv2.more (by simp; have := hoA.bx.lt; omega)) hf.1 hf.2 hown3 hgb3 hg3
      go_wp2_with fail
      go_roundw
      case rel => exact ⟨2 + 1, _, _, _, by omega, rfl, by rw [HQ.out, ← HF.out 2 (by omega)] at hz; exact hz, hbz⟩
      case measure => simp [intOf]
    · skip
      have hs := hs_.below hb
      have hx := hx_.below hb
      have hy := hy_.below hb
      have d0 := kept hb d0_
      have d1 := kept hb d1_
      have e0 := kept hb e0_
      have e1 := kept hb e1_
      have f0 := kept hb f0_
      have f1 := kept hb f1_
      have hr := hr_.below hb
      have hfr := ho.frh (by have := HD.out; omega) (by have := HU.out; omega)
      obtain ⟨gd, cd, rfl, _⟩ := ho.od.fr (by have := HD.out; omega)
      obtain ⟨gu, cu, rfl, _⟩ := World.ownsRow.form ho.ou (by have := HU.out; omega)
      have bc0 := ho.bx.c0; have bc1 := ho.bx.c1
      have rc0 := hr.c0; have rc1 := hr.c1; have rf0 := hr.f0; have rf1 := hr.f1
      go_wp2_with fail
      refine bodyPost_ret (v := .agg #[.slice (some ⟨gd, 0, none⟩) (jdgS p st X Y 3).length cd, .slice (some ⟨gu, 0, none⟩) us.length cu]) (by simp [results, Tryz.results69, go_sem, rc0, rc1]) rfl ⟨_, rfl, ?_, ?_⟩
      · exact ((hfr.set_ (by first | omega | simp <;> omega) _).set_ (by first | omega | simp <;> omega) _).more (by omega)
      · exact blw_set (blw_set (below_chain hbw0 hb) (by first | omega | simp <;> omega) _) (by first | omega | simp <;> omega) _
end Go.Proofs.YtgcelfnjijhmkaaGreat
