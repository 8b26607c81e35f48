/-
  The law FnExactLocalBasis.
-/
import Derived.Test.YtmplpoccalccoaaLawTs
import Derived.Test.YtmplpoccalccoaaJat
namespace Go.Proofs.Ytmplpoccalccoaa
open Go.RowKit

theorem cutN_m8 {n : Nat} {xs : List Int} (hn : n ≤ 8) (hl : n * n ≤ xs.length) : M8 (cutN n xs n) :=
  ⟨by rw [cutN_len]; exact hn, fun r hr => by rw [cutN_row n hl r hr]; exact hn⟩
theorem RLocalBasis0_len (p : Int) (st : List Int) (_ : st.length ≤ 1048576) : Ts8 (RLocalBasis0 p st) := by
  unfold RLocalBasis0
  split
  · rename_i h
    have h0 : chk3 p st [] = 0 := by
      unfold RLocalBasis1 at h
      split at h
      · assumption
      · exact absurd h (by assumption)
    have hd := chk3_dok h0
    have hsz := (sz_le hd).2
    have hle := locN_le hd
    have h3 : 3 * sz st.length * sz st.length ≤ 192 := by
      rw [Nat.mul_assoc]
      have := Nat.mul_le_mul hsz hsz
      omega
    refine ⟨by rw [List.length_map]; omega, fun T hT => ?_⟩
    obtain ⟨r, hr, rfl⟩ := List.mem_map.1 hT
    have hl := loc_row hd r hr
    have e3 : 3 * sz st.length * sz st.length = sz st.length * sz st.length + sz st.length * sz st.length + sz st.length * sz st.length := by rw [Nat.mul_assoc]; omega
    have e2 : 2 * sz st.length * sz st.length = sz st.length * sz st.length + sz st.length * sz st.length := by rw [Nat.mul_assoc]; omega
    exact ⟨cutN_m8 hsz (by omega), cutN_m8 hsz (by rw [List.length_drop]; omega), cutN_m8 hsz (by rw [List.length_drop]; omega)⟩
  · exact ⟨by simp, fun T hT => by cases hT⟩
section
variable {w w' : World} {B : Nat} {v : Value} {Ts : List T3}
theorem OwT.below (h : OwT TrG w B v Ts) (hb : Below w.heap.size w w') : OwT TrG w' B v Ts := by
  rcases h with h | ⟨zs, lh, h⟩
  · exact .inl h
  · exact .inr ⟨zs, lh, h.below keepsG hb⟩
theorem OwT.chg {a b : Nat} (h : OwT TrG w B v Ts) (hc : Chg a b w w') (hr : b ≤ B) : OwT TrG w' B v Ts := by
  rcases h with h | ⟨zs, lh, h⟩
  · exact .inl h
  · refine .inr ⟨zs, lh, ?_, h.len, fun j hj hj' => ?_, h.lo, h.pw⟩
    · refine ⟨h.own.1, ?_⟩
      rcases h.own.2 with h6 | ⟨g, cap, cur, rfl, h7, hh, h8⟩
      · exact .inl h6
      · exact .inr ⟨g, cap, cur, rfl, h7, by rw [hc.block g (Array.getElem?_eq_some_iff.1 hh).1 (.inr (by omega))]; exact hh, h8⟩
    · obtain ⟨x, y, z, h1, h2, h3, h4, h5⟩ := h.els j hj hj'
      have hs := h4.sz
      have hlo := h.lo _ (List.getElem_mem hj')
      exact ⟨x, y, z, h1, h2, h3, h4.keep (Nat.le_trans hs.2 hc.size) fun k h6 h7 => hc.block k (by omega) (.inr (by omega)), h5⟩
end
set_option maxRecDepth 100000 in
theorem markow_c {v : Value} {Ts : List T3} {B : Nat} {k : Int} {w : World} (hv : OwT TrG w B v Ts) (hm : Ts8 Ts) (hk0 : 0 ≤ k) (hk : k ≤ 1000000) :
    Calls Try.prog 33 #[v, .int .i64 k] w fun e w' => e = .returned (.int .i64 (k + sumT Ts)) ∧ OwT TrG w' B v (cntT k Ts) ∧ Chg B w.heap.size w w' := by
  rcases hv with ⟨rfl, rfl⟩ | ⟨zs, lh, hv⟩
  · go_enter Try.func33, Try.ntmps33
    go_wp2
    refine wp_loop_rounds 1 ?_; rw [rounds_succ]
    go_wp2
    go_ret
    exact ⟨by simp [sumT], .inl ⟨rfl, rfl⟩, Chg.refl⟩
  · exact (marktl_c hv hm hk0 hk).mono fun e w' ⟨h1, h2, h3⟩ => ⟨h1, .inr ⟨zs, lh, h2⟩, h3⟩
theorem heldow_c {v : Value} {Ts : List T3} {k : Int} {w : World} (hv : Trs w v (cntT k Ts)) (hm : Ts8 Ts) (hk0 : 0 ≤ k) (hk : k ≤ 1000000) :
    Calls Try.prog 34 #[v, .int .i64 k] w fun e w' => e = .returned (.int .i64 (k + sumT Ts)) ∧ Below w.heap.size w w' :=
  (heldtl_c hv hm hk0 hk).mono fun e w' ⟨h1, h2⟩ => ⟨h1, by rw [← h2]; exact Below.refl _ _⟩
set_option maxHeartbeats 2000000 in
set_option maxRecDepth 100000 in
theorem law_LocalBasis {p0 : Int} {x0 : Value} {st0 : List Int} {w : World} (hx0 : Sl w x0 st0) (hb0_ : st0.length ≤ 9223372036854775807) :
    Calls Try.prog 6 #[.agg #[.int .i64 p0, x0]] w fun e w' => e = .returned (.bool true) ∧ Below w.heap.size w w' := by
  obtain ⟨a0, c0, rfl, _⟩ := id hx0
  obtain ⟨z0, hz0_⟩ : ∃ z, z = szI 1048576 st0.length := ⟨_, rfl⟩
  have hzb0 := szI_bd (left := 1048576) (n := st0.length) (by omega) (by omega)
  rw [← hz0_] at hzb0
  have HZ0 := Lib.hid hz0_; clear hz0_
  by_cases hs0 : z0 < 0
  case pos =>
    go_enter Try.func6, Try.ntmps6
    have hb0 : Below w.heap.size w (w.alloc (.cells #[.int .i64 p0, .slice a0 st0.length c0] 24)) := (by repeat (first | exact Below.refl _ _ | apply blw_drew | apply blw_alloc | (refine blw_set ?_ (by first | omega | (simp; done) | (simp; omega)) _) | refine below_chain ?_ (by assumption)))
    have hx0 := hx0.below hb0
    have d00 : (w.alloc (.cells #[.int .i64 p0, .slice a0 st0.length c0] 24)).cell? ⟨w.heap.size, 0, none⟩ = some (.int .i64 p0) := by simp [go_sem]
    have d01 : (w.alloc (.cells #[.int .i64 p0, .slice a0 st0.length c0] 24)).cell? ⟨w.heap.size, 1, none⟩ = some (.slice a0 st0.length c0) := by simp [go_sem]
    go_wp2_with fail
    refine (szd_c (by omega) (by omega) hb0_).mono ?_; rintro e w1 ⟨rfl, hb1⟩
    have hx0 := hx0.below hb1; have d00 := kept hb1 d00; have d01 := kept hb1 d01
    simp only [← HZ0.out]
    go_wp2_with fail
    go_ret
    exact ⟨rfl, (by repeat (first | exact Below.refl _ _ | apply blw_drew | apply blw_alloc | (refine blw_set ?_ (by first | omega | (simp; done) | (simp; omega)) _) | refine below_chain ?_ (by assumption)))⟩
  have hl0 : st0.length ≤ 1048576 := szI_pos (left := 1048576) (by omega) (by rw [← HZ0.out]; exact hs0)
  have hI := fun (W : World) (x0 : Value) (hx0 : El W x0 st0) => iLocalBasis_c (w := W) (p := p0) hx0 hl0
  have hS := fun (W : World) (x0 : Value) (hx0 : El W x0 st0) => sLocalBasis_c (w := W) (p := p0) hx0 hl0
  have yl0 := RLocalBasis0_len p0 st0 hl0
  obtain ⟨y0, hy0⟩ : ∃ y, y = RLocalBasis0 p0 st0 := ⟨_, rfl⟩
  obtain ⟨y1, hy1⟩ : ∃ y, y = RLocalBasis1 p0 st0 := ⟨_, rfl⟩
  simp only [← hy0, ← hy1] at hI hS yl0
  clear hy0 hy1
  go_enter Try.func6, Try.ntmps6
  have hb0 : Below w.heap.size w (w.alloc (.cells #[.int .i64 p0, .slice a0 st0.length c0] 24)) := (by repeat (first | exact Below.refl _ _ | apply blw_drew | apply blw_alloc | (refine blw_set ?_ (by first | omega | (simp; done) | (simp; omega)) _) | refine below_chain ?_ (by assumption)))
  have hx0 := hx0.below hb0
  have d00 : (w.alloc (.cells #[.int .i64 p0, .slice a0 st0.length c0] 24)).cell? ⟨w.heap.size, 0, none⟩ = some (.int .i64 p0) := by simp [go_sem]
  have d01 : (w.alloc (.cells #[.int .i64 p0, .slice a0 st0.length c0] 24)).cell? ⟨w.heap.size, 1, none⟩ = some (.slice a0 st0.length c0) := by simp [go_sem]
  go_wp2_with fail
  refine (szd_c (by omega) (by omega) hb0_).mono ?_; rintro e w1 ⟨rfl, hb1⟩
  have hx0 := hx0.below hb1; have d00 := kept hb1 d00; have d01 := kept hb1 d01
  simp only [← HZ0.out]
  go_wp2_with fail
  refine (tod_c hx0 hl0).mono ?_; rintro e w2 ⟨t0, rfl, ht0, hb2⟩
  have hx0 := hx0.below hb2; have d00 := kept hb2 d00; have d01 := kept hb2 d01
  go_wp2_with fail
  refine (hS _ _ ht0.el).mono ?_; rintro e w3 ⟨v0_, rfl, hs0, hb3⟩
  have hx0 := hx0.below hb3; have d00 := kept hb3 d00; have d01 := kept hb3 d01; have ht0 := ht0.below hb3
  have hs0 := hs0.trs readsR; obtain ⟨s0a, s0c, rfl, _⟩ := id hs0
  go_wp2_with fail
  obtain ⟨W3, hW3⟩ : ∃ W, W = w3 := ⟨_, rfl⟩
  have hbW3 : Below w.heap.size w W3 := by rw [hW3]; exact (by repeat (first | exact Below.refl _ _ | apply blw_drew | apply blw_alloc | (refine blw_set ?_ (by first | omega | (simp; done) | (simp; omega)) _) | refine below_chain ?_ (by assumption)))
  rw [← hW3] at hx0 d00 d01 hs0 ⊢; clear hW3
  have hx0_ := hx0
  have d00_ := d00
  have d01_ := d01
  have hs0_ := hs0
  refine (tod_c hx0 hl0).mono ?_; rintro e w5 ⟨t0, rfl, ⟨g0, k0, rfl, ht0⟩, hb5⟩
  have hx0 := hx0.below hb5; have d00 := kept hb5 d00; have d01 := kept hb5 d01; have hs0 := hs0.below hb5
  have bt0 := ht0.lt; have zt0 := hb5.size; (try simp at bt0); (try simp at zt0)
  have hb6 : Below w5.heap.size w5 (w5.alloc (.cells #[.int .i64 p0, .slice (some ⟨g0, 0, none⟩) st0.length k0] 32)) := (by repeat (first | exact Below.refl _ _ | apply blw_drew | apply blw_alloc | (refine blw_set ?_ (by first | omega | (simp; done) | (simp; omega)) _) | refine below_chain ?_ (by assumption)))
  have hx0 := hx0.below hb6; have d00 := kept hb6 d00; have d01 := kept hb6 d01; have hs0 := hs0.below hb6; have ht0 := ht0.below hb6
  have e00 : (w5.alloc (.cells #[.int .i64 p0, .slice (some ⟨g0, 0, none⟩) st0.length k0] 32)).cell? ⟨w5.heap.size, 0, none⟩ = some (.int .i64 p0) := by simp [go_sem]
  have e01 : (w5.alloc (.cells #[.int .i64 p0, .slice (some ⟨g0, 0, none⟩) st0.length k0] 32)).cell? ⟨w5.heap.size, 1, none⟩ = some (.slice (some ⟨g0, 0, none⟩) st0.length k0) := by simp [go_sem]
  go_wp2_with fail
  refine (hI _ _ ht0.el).mono ?_; rintro e w7 ⟨v0_, rfl, hg0, hb7⟩
  have hx0 := hx0.below hb7; have d00 := kept hb7 d00; have d01 := kept hb7 d01; have hs0 := hs0.below hb7; have ht0 := ht0.below hb7; have e00 := kept hb7 e00; have e01 := kept hb7 e01
  have z6 := hb7.size; (try simp at z6)
  have hq0 := hg0; clear hg0
  obtain ⟨g0a, g0c, rfl, _⟩ := id (hq0.trs readsG)
  go_wp2_with fail
  refine (eqtl_c (hq0.trs readsG) hs0 yl0).mono ?_; rintro e w9 ⟨rfl, hb9⟩
  have hx0 := hx0.below hb9; have d00 := kept hb9 d00; have d01 := kept hb9 d01; have hs0 := hs0.below hb9; have ht0 := ht0.below hb9; have e00 := kept hb9 e00; have e01 := kept hb9 e01; have hq0 := hq0.below hb9
  go_wp2_with fail
  refine region_flow [(false, [(0, 1), (1, 1), (2, 5)]), (false, [(3, 4), (4, 0)])] (by kernel_rfl) ?_
  refine norm_K fun K hK => ?_
  change wpList _ _ _ [_, _, _] _ _
  have hb10 : Below w9.heap.size w9 w9.drew := (by repeat (first | exact Below.refl _ _ | apply blw_drew | apply blw_alloc | (refine blw_set ?_ (by first | omega | (simp; done) | (simp; omega)) _) | refine below_chain ?_ (by assumption)))
  have hx0 := hx0.below hb10; have d00 := kept hb10 d00; have d01 := kept hb10 d01; have hs0 := hs0.below hb10; have ht0 := ht0.below hb10; have e00 := kept hb10 e00; have e01 := kept hb10 e01; have hq0 := hq0.below hb10
  go_wp2_with fail
  refine (tod_c hx0 hl0).mono ?_; rintro e w11 ⟨u0, rfl, hu0, hb11⟩
  have hx0 := hx0.below hb11; have d00 := kept hb11 d00; have d01 := kept hb11 d01; have hs0 := hs0.below hb11; have ht0 := ht0.below hb11; have e00 := kept hb11 e00; have e01 := kept hb11 e01; have hq0 := hq0.below hb11
  go_wp2_with fail
  first | (refine hK _ _ ⟨hb11, ?_⟩; clear hK K) | refine ⟨hb11, ?_⟩
  refine norm_K fun K hK => ?_
  change wpList _ _ _ [_, _] _ _
  go_wp2_with fail
  refine (eqd_c ht0.sl hu0.sl hl0).mono ?_; rintro e w12 ⟨rfl, hb12⟩
  have hx0 := hx0.below hb12; have d00 := kept hb12 d00; have d01 := kept hb12 d01; have hs0 := hs0.below hb12; have ht0 := ht0.below hb12; have e00 := kept hb12 e00; have e01 := kept hb12 e01; have hq0 := hq0.below hb12
  go_wp2_with fail
  first | (refine hK _ _ ⟨rfl, ?_⟩; clear hK K) | refine ⟨rfl, ?_⟩
  go_wp2_with fail
  refine (markd_c (ht0.fr.ow (Nat.le_refl _)) hl0 (by omega) (by omega)).mono ?_; rintro e w13 ⟨rfl, _, hch_⟩
  have hch0 := hch_ g0 (g0 + 1) (fun j hj => by have e : g0 = j := Option.some.inj hj; omega); clear hch_
  have hb13 := hch0.blw (show Below W3.heap.size W3 w12 from (by repeat (first | exact Below.refl _ _ | apply blw_drew | apply blw_alloc | (refine blw_set ?_ (by first | omega | (simp; done) | (simp; omega)) _) | refine below_chain ?_ (by assumption)))) (by omega)
  have hx0 := hx0_.below hb13
  have d00 := kept hb13 d00_
  have d01 := kept hb13 d01_
  have hs0 := hs0_.below hb13
  have hq0 := hq0.chg hch0 (by first | omega | (simp; omega))
  have zw13 : W3.heap.size ≤ w13.heap.size := hb13.size
  go_wp2_with fail
  refine (eqtl_c (hq0.trs readsG) hs0 yl0).mono ?_; rintro e w14 ⟨rfl, hb14⟩
  have hx0 := hx0.below hb14; have d00 := kept hb14 d00; have d01 := kept hb14 d01; have hs0 := hs0.below hb14; have hq0 := hq0.below hb14
  go_wp2_with fail
  refine (markow_c hq0 yl0 (by omega) (by omega)).mono ?_; rintro e w15 ⟨rfl, hm0, hcg0⟩
  have hb15 := hcg0.blw (show Below W3.heap.size W3 w14 from (by repeat (first | exact Below.refl _ _ | apply blw_drew | apply blw_alloc | (refine blw_set ?_ (by first | omega | (simp; done) | (simp; omega)) _) | refine below_chain ?_ (by assumption)))) (by simp; omega)
  have hx0 := hx0_.below hb15
  have d00 := kept hb15 d00_
  have d01 := kept hb15 d01_
  have hs0 := hs0_.below hb15
  go_wp2_with fail
  refine (heldow_c (hm0.trs readsG) yl0 (by omega) (by omega)).mono ?_; rintro e w16 ⟨rfl, hb16⟩
  have hx0 := hx0.below hb16; have d00 := kept hb16 d00; have d01 := kept hb16 d01; have hs0 := hs0.below hb16; have hm0 := hm0.below hb16
  go_wp2_with fail
  refine (tod_c hx0 hl0).mono ?_; rintro e w17 ⟨r0, rfl, hr0, hb17⟩
  have hx0 := hx0.below hb17; have d00 := kept hb17 d00; have d01 := kept hb17 d01; have hs0 := hs0.below hb17; have hm0 := hm0.below hb17
  go_wp2_with fail
  refine (hI _ _ hr0.el).mono ?_; rintro e w18 ⟨v0_, rfl, hf0, hb18⟩
  have hx0 := hx0.below hb18; have d00 := kept hb18 d00; have d01 := kept hb18 d01; have hs0 := hs0.below hb18; have hm0 := hm0.below hb18; have hr0 := hr0.below hb18
  obtain ⟨f0a, f0c, rfl, _⟩ := id (hf0.trs readsG)
  go_wp2_with fail
  refine (eqtl_c (hf0.trs readsG) hs0 yl0).mono ?_; rintro e w20 ⟨rfl, hb20⟩
  have hx0 := hx0.below hb20; have d00 := kept hb20 d00; have d01 := kept hb20 d01; have hs0 := hs0.below hb20; have hm0 := hm0.below hb20; have hf0 := hf0.below hb20
  go_wp2_with fail
  refine (heldow_c (hm0.trs readsG) yl0 (by omega) (by omega)).mono ?_; rintro e w21 ⟨rfl, hb21⟩
  have hx0 := hx0.below hb21; have d00 := kept hb21 d00; have d01 := kept hb21 d01; have hs0 := hs0.below hb21; have hm0 := hm0.below hb21; have hf0 := hf0.below hb21
  go_wp2_with fail
  go_ret
  exact ⟨rfl, below_chain hbW3 (by repeat (first | exact Below.refl _ _ | apply blw_drew | apply blw_alloc | (refine blw_set ?_ (by first | omega | (simp; done) | (simp; omega)) _) | refine below_chain ?_ (by assumption)))⟩
end Go.Proofs.Ytmplpoccalccoaa
