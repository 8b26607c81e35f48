/- Texts joined for a claim: PnB, HeB, HeH. -/
import Derived.Test.YtgcelfnjijhmkaaGreatJbn
import Derived.Test.YtgcelfnjijhmkaaGreatCPointAt
import Derived.Test.YtgcelfnjijhmkaaGreatCCoordinatesOf
import Derived.Test.YtgcelfnjijhmkaaGreatJbq
import Derived.Test.YtgcelfnjijhmkaaGreatLIdempotentOf
import Derived.Test.YtgcelfnjijhmkaaGreatJbb
/-
  Points with coordinates, multiples of points, idempotents, as rows of numbers. No program in sight.
-/
namespace Go.Proofs.YtgcelfnjijhmkaaGreat

section
variable {n : Nat} [NeZero n] (g h k : Fin n)
theorem AC_point (x y : Oc n) : AC g h k ⟨onm g h k x, onm g h k y, 1, y, ocj x, omul g h k x (ocj y)⟩ = zero3 := by
  have e1 : onm g h k (ocj x) = onm g h k x := by rw [onm_odt, onm_odt, odt_cj]
  have e2 : onm g h k (ocj y) = onm g h k y := by rw [onm_odt, onm_odt, odt_cj]
  have e3 : omul g h k (ocj x) (omul g h k x (ocj y)) = osc (onm g h k x) (ocj y) := by rw [alt_l1, onm_odt]
  have e4 : omul g h k (omul g h k x (ocj y)) y = osc (onm g h k y) x := by
    have e := alt_r1 g h k x (ocj y)
    rw [ocj_ocj, odt_cj, ← onm_odt] at e
    exact e
  unfold AC zero3
  simp only [onm_mul, e1, e2, e3, e4, ocj_osc, ocj_mul, ocj_ocj]
  apply H3.ext <;> first | (unfold oad osc ocj ore; apply Oc.ext <;> grind) | (simp only []; grind)
end
theorem isP_one {p : Int} (hp : IsP p) : invL p 1 = 1 := by rcases hp with rfl | rfl | rfl | rfl | rfl <;> decide
theorem scaleL_one {p : Int} {xs : List Int} (h : Fp p xs) : scaleL p xs 1 = xs := by
  unfold scaleL
  conv => rhs; rw [← List.map_id xs]
  refine List.map_congr_left fun x hx => ?_
  have := h x hx
  rw [Int.mul_one]
  exact Int.emod_eq_of_lt this.1 this.2
section
variable {p : Int} {st x y : List Int} {X : Her}
theorem point_pt (hd : Dok p st) (hx : Ev p (sz st.length) x) (hy : Ev p (sz st.length) y) : isPt p st (pointH p st x y) = true := by
  have h2 : 2 ≤ p := by have := hd.hp.lo; omega
  have hP := pointH_is (st := st) h2 hx hy
  refine isPt_iff.2 ⟨by unfold isZ numsH pointH; simp, ?_⟩
  refine hd.hp.lift fun n _ hn hiv _ => ?_
  rw [isZ_nums (n := n) hn (sz_le hd).2 (adjH_is h2 hP), toH_adj hn h2 hd.hl hP]
  have e : toH n (pointH p st x y) = ⟨onm (gam n st 0) (gam n st 1) (gam n st 2) (toO n x), onm (gam n st 0) (gam n st 1) (gam n st 2) (toO n y), 1, toO n y, ocj (toO n x), omul (gam n st 0) (gam n st 1) (gam n st 2) (toO n x) (ocj (toO n y))⟩ := by
    rw [← toF_norm hn h2 hd.hl hx, ← toF_norm hn h2 hd.hl hy, ← toO_conj hn, ← toO_conj hn, ← toO_mul hn hd.hl hx.1 (hy.conj (by omega)).1]
    show H3.mk _ _ (toF n 1) _ _ _ = _
    rw [toF_one]
    rfl
  rw [e, AC_point]
theorem point_coords (hd : Dok p st) (hx : Ev p (sz st.length) x) (hy : Ev p (sz st.length) y) :
    RCoordinatesOf2 p st (pointH p st x y) = 0 ∧ RCoordinatesOf0 p st (pointH p st x y) = x ∧ RCoordinatesOf1 p st (pointH p st x y) = y := by
  have h2 : 2 ≤ p := by have := hd.hp.lo; omega
  have hP := pointH_is (st := st) h2 hx hy
  have h0 : RCoordinatesOf2 p st (pointH p st x y) = 0 := by
    unfold RCoordinatesOf2
    have e : ptsH p st [pointH p st x y] = 0 := by
      unfold ptsH
      rw [if_pos (chkH_ok hd (by simp [hP])), if_pos (by simp [point_pt hd hx hy])]
    rw [if_pos e, if_neg (by show ¬ (1 : Int) = 0; decide)]
  have e1 : invL p ((pointH p st x y).d 2) = 1 := isP_one hd.hp
  refine ⟨h0, ?_, ?_⟩
  · unfold RCoordinatesOf0
    rw [if_pos h0, e1]
    show conjL p (scaleL p (conjL p x) 1) = x
    rw [scaleL_one (hx.conj (by omega)).2, conj_conj hx.2]
  · unfold RCoordinatesOf1
    rw [if_pos h0, e1]
    show scaleL p y 1 = y
    exact scaleL_one hy.2
theorem mul_nz (hp : IsP p) {a k : Int} (ha : 0 ≤ a ∧ a < p) (hk : 1 ≤ k) (hk2 : k < p) : a * k % p = 0 ↔ a = 0 := by
  refine ⟨fun h => ?_, fun h => by rw [h, Int.zero_mul, Int.zero_emod]⟩
  obtain ⟨i1, i2, _⟩ := inv_tab hp hk hk2
  have e : a % p = (a * k % p) * invL p k % p := by
    rw [Int.mul_emod (a * k % p), Int.emod_emod, ← Int.mul_emod, Int.mul_assoc, Int.mul_emod a, i2, Int.mul_one, Int.emod_emod]
  rw [h, Int.zero_mul, Int.zero_emod, Int.emod_eq_of_lt ha.1 ha.2] at e
  exact e
theorem lead_scale (hp : IsP p) {k : Int} (hk : 1 ≤ k) (hk2 : k < p) : ∀ {xs : List Int}, Fp p xs → leadN (scaleL p xs k) = leadN xs
  | [], _ => rfl
  | x :: xs, h => by
    have e := mul_nz hp (h x (List.mem_cons_self ..)) hk hk2
    have r := lead_scale hp hk hk2 (xs := xs) fun y hy => h y (List.mem_cons_of_mem _ hy)
    show (if x * k % p = 0 then leadN (scaleL p xs k) + 1 else 0) = if x = 0 then leadN xs + 1 else 0
    rw [r]
    by_cases hx : x = 0
    · rw [if_pos hx, if_pos (e.2 hx)]
    · rw [if_neg hx, if_neg fun h => hx (e.1 h)]
theorem isZ_scale (hp : IsP p) {k : Int} (hk : 1 ≤ k) (hk2 : k < p) {xs : List Int} (h : Fp p xs) : isZ (scaleL p xs k) = isZ xs := by
  rw [isZ_lead, isZ_lead, lead_scale hp hk hk2 h, scaleL_len]
theorem mult_pt (hd : Dok p st) (hX : isH p (sz st.length) X = true) {k : Int} (hk : 1 ≤ k) (hk2 : k < p) (pX : isPt p st X = true) : isPt p st (multH p X k) = true := by
  have h2 : 2 ≤ p := by have := hd.hp.lo; omega
  have hM := multH_is (p := p) (k := k) (by omega) hX
  obtain ⟨h0, h1⟩ := isPt_iff.1 pX
  refine isPt_iff.2 ⟨?_, ?_⟩
  · rw [← scale_nums ⟨_, hX⟩, isZ_scale hd.hp hk hk2 (isH_nums hX (sz_le hd).1).2.2.2.2]
    exact h0
  · refine hd.hp.lift fun n _ hn hiv _ => ?_
    rw [isZ_nums (n := n) hn (sz_le hd).2 (adjH_is h2 hX), toH_adj hn h2 hd.hl hX] at h1
    rw [isZ_nums (n := n) hn (sz_le hd).2 (adjH_is h2 hM), toH_adj hn h2 hd.hl hM, toH_mult hn hX, AC_mult, h1, MC_zero]
theorem norm_mult (hd : Dok p st) (hX : isH p (sz st.length) X = true) {k : Int} (hk : 1 ≤ k) (hk2 : k < p) (pX : isPt p st X = true) :
    RNormalPoint1 p st (multH p X k) = 0 ∧ RNormalPoint0 p st (multH p X k) = RNormalPoint0 p st X := by
  have h2 : 2 ≤ p := by have := hd.hp.lo; omega
  have hM := multH_is (p := p) (k := k) (by omega) hX
  have pM := mult_pt hd hX hk hk2 pX
  have ok : ∀ {Z : Her}, isH p (sz st.length) Z = true → isPt p st Z = true → RNormalPoint1 p st Z = 0 := fun hZ pZ => by
    show ptsH p st [_] = 0
    unfold ptsH
    rw [if_pos (chkH_ok hd (by simp [hZ])), if_pos (by simp [pZ])]
  refine ⟨ok hM pM, ?_⟩
  unfold RNormalPoint0
  rw [if_pos (ok hM pM), if_pos (ok hX pX)]
  obtain ⟨hlt, hl1, hl2⟩ := pt_lead hd hX pX
  rw [← scale_nums ⟨_, hX⟩, lead_scale hd.hp hk hk2 (isH_nums hX (sz_le hd).1).2.2.2.2]
  have el : (scaleL p (numsH X) k).getD (leadN (numsH X)) 0 = (numsH X).getD (leadN (numsH X)) 0 * k % p := by
    unfold scaleL
    rw [List.getD_eq_getElem?_getD, List.getElem?_map, List.getD_eq_getElem?_getD, List.getElem?_eq_getElem hlt]
    rfl
  rw [el]
  generalize (numsH X).getD (leadN (numsH X)) 0 = l at hl1 hl2
  have hm1 : l * k % p ≠ 0 := fun e => by have := (mul_nz hd.hp (by omega) hk hk2).1 e; omega
  have hm2 := mod_fp2 (p := p) (x := l * k) (by omega)
  obtain ⟨_, i1, _⟩ := inv_tab hd.hp hl1 hl2
  obtain ⟨_, i2, _⟩ := inv_tab hd.hp (a := l * k % p) (by omega) hm2.2
  refine hd.hp.lift fun n _ hn hiv _ => toH_inj (n := n) hn (sz_le hd).2 (multH_is (by omega) hM) (multH_is (by omega) hX) ?_
  rw [toH_mult hn hM, toH_mult hn hX, toH_mult hn hX, MC_MC]
  have f1 : toF n l * toF n (invL p l) = 1 := by rw [← toF_mul, ← toF_mod, ← hn, i1, toF_one]
  have f2 : toF n l * toF n k * toF n (invL p (l * k % p)) = 1 := by
    rw [← toF_mul, ← toF_mod n (l * k), ← hn, ← toF_mul, ← toF_mod, ← hn, i2, toF_one]
  have f3 : toF n (invL p (l * k % p)) * toF n k = toF n (invL p l) := by grind
  rw [f3]
theorem idem_norm (hd : Dok p st) (hX : isH p (sz st.length) X = true) (ht : traceH p X ≠ 0) (pX : isPt p st X = true) :
    RNormalPoint1 p st (multH p X (invL p (traceH p X))) = 0 ∧ RNormalPoint0 p st (multH p X (invL p (traceH p X))) = RNormalPoint0 p st X ∧ primH p st (multH p X (invL p (traceH p X))) = true := by
  have h2 : 2 ≤ p := by have := hd.hp.lo; omega
  have hf := trace_fp (X := X) (show 1 ≤ p by omega)
  obtain ⟨i1, _, _⟩ := inv_tab hd.hp (a := traceH p X) (by omega) hf.2
  have hn := norm_mult hd hX i1 (invL_fp h2).2 pX
  exact ⟨hn.1, hn.2, by rw [prim_pt hd hX ht, pX]⟩
end
end Go.Proofs.YtgcelfnjijhmkaaGreat
/-
  The laws' dice: the same as the source of the draws, over another struct.
-/
namespace Go.Proofs.YtgcelfnjijhmkaaGreat
open Go.RowKit

def Dx (w : World) (q : Nat) (cv : Value) (i h : Int) : Prop := w.heap[q]? = some (.cells #[cv, .int .i64 i, .int .u64 h] 74 (0, 0))
def Dce (w : World) (q : Nat) : Prop := ∃ (cv : Value) (n i : Nat) (h : Int), Dx w q cv i h ∧ Co w q cv n ∧ i ≤ n ∧ 0 ≤ h ∧ h < 18446744073709551616
section
variable {w w' w2 : World} {q n B : Nat} {cv : Value} {i h' : Int}
theorem Dx.c0 (h : Dx w q cv i h') : w.cell? ⟨q, 0, none⟩ = some cv := by unfold Dx at h; simp [World.cell?, h]
theorem Dx.c1 (h : Dx w q cv i h') : w.cell? ⟨q, 1, none⟩ = some (.int .i64 i) := by unfold Dx at h; simp [World.cell?, h]
theorem Dx.c2 (h : Dx w q cv i h') : w.cell? ⟨q, 2, none⟩ = some (.int .u64 h') := by unfold Dx at h; simp [World.cell?, h]
theorem Dx.f (h : Dx w q cv i h') (k : Nat) : w.frozen? ⟨q, k, none⟩ = false := frozen_of_row _ _ _ _ _ h
theorem Dx.set1 (h : Dx w q cv i h') (i' : Int) : Dx (w.setCell ⟨q, 1, none⟩ (.int .i64 i')) q cv i' h' := heap_setCell_same _ _ _ _ _ _ h
theorem Dx.set2 (h : Dx w q cv i h') (k' : Int) : Dx (w.setCell ⟨q, 2, none⟩ (.int .u64 k')) q cv i k' := heap_setCell_same _ _ _ _ _ _ h
theorem Dx.lt (h : Dx w q cv i h') : q < w.heap.size := (Array.getElem?_eq_some_iff.1 h).1
theorem Dx.below (h : Dx w q cv i h') (hb : Below w.heap.size w w') : Dx w' q cv i h' := by
  unfold Dx at h ⊢
  rw [hb.block q (Array.getElem?_eq_some_iff.1 h).1]; exact h
theorem Dx.drew (h : Dx w q cv i h') : Dx w.drew q cv i h' := h
theorem Dce.lt (h : Dce w q) : q < w.heap.size := by obtain ⟨_, _, _, _, h, _⟩ := h; exact h.lt
theorem Dce.bl (h : Dce w q) (hb : Below B w w') (hq : q < B) : Dce w' q := by
  obtain ⟨cv, n, i, h, hx, hc, h1⟩ := h
  refine ⟨cv, n, i, h, ?_, hc.bl hb (by omega), h1⟩
  unfold Dx at hx ⊢
  rw [hb.block q hq]; exact hx
end
set_option maxHeartbeats 2000000 in
set_option maxRecDepth 100000 in
theorem dbelow_c {q : Nat} {n : Int} {w : World} (hs : Dce w q) (hn1 : -9223372036854775808 ≤ n) (hn2 : n ≤ 9223372036854775807) :
    Calls Tryz.prog 19 #[.pointer (some ⟨q, 0, none⟩), .int .i64 n] w fun e w' => ∃ x : Int, e = .returned (.int .i64 x) ∧ 0 ≤ x ∧ (x < n ∨ (n < 1 ∧ x = 0)) ∧ Dce w' q ∧ Chg q (q + 1) w w' ∧ w'.heap.size = w.heap.size := by
  obtain ⟨cv, m, i, h, hx, hc, hi1, hh0, hh1⟩ := id hs
  obtain ⟨a, c, rfl, hm, hby⟩ := id hc
  have c0 := hx.c0; have c1 := hx.c1; have c2 := hx.c2; have f1 := hx.f 1; have f2 := hx.f 2
  by_cases h1 : n < 1
  · go_enter Tryz.func19, Tryz.ntmps19
    go_wp2_with fail
    go_ret
    exact ⟨0, rfl, by omega, .inr ⟨h1, rfl⟩, hs, Chg.refl, rfl⟩
  · go_enter Tryz.func19, Tryz.ntmps19
    have hwr := wrap_u64 (IntKind.u64.wrap (h * 6364136223846793005) + 1442695040888963407)
    obtain ⟨h2, hh2⟩ : ∃ y, y = IntKind.u64.wrap (IntKind.u64.wrap (h * 6364136223846793005) + 1442695040888963407) := ⟨_, rfl⟩
    have hbd := hash_bd hwr.1 hwr.2
    rw [← hh2] at hbd hwr
    obtain ⟨x0, hx0⟩ : ∃ y, y = wrap64 (bits .and .u64 (h2 / 8589934592) 16777215) := ⟨_, rfl⟩
    rw [← hx0] at hbd
    have HH := Lib.hid hh2; have HX := Lib.hid hx0; clear hh2 hx0
    have hx2 := hx.set2 h2
    have hc2 := hc.chg (Chg.set w ⟨q, 2, none⟩ (.int .u64 h2)) (Nat.le_refl _)
    have hch := Chg.set w ⟨q, 2, none⟩ (.int .u64 h2)
    have hsz : (w.setCell ⟨q, 2, none⟩ (.int .u64 h2)).heap.size = w.heap.size := by simp
    go_upto_region 5 with fail
    rw [← HH.out, ← HX.out]
    obtain ⟨w1, hw1⟩ : ∃ x, x = w.setCell ⟨q, 2, none⟩ (.int .u64 h2) := ⟨_, rfl⟩
    rw [← hw1] at hx2 hc2 hch hsz ⊢
    clear hw1 c0 c1 c2 f1 f2
    have c0 := hx2.c0; have c1 := hx2.c1; have f1 := hx2.f 1
    by_cases hlt : i < m
    · rcases hby with h0 | ⟨b, off, rfl, hbq, _⟩
      · omega
      obtain ⟨a2, cc2, e2, _, hby2⟩ := id hc2
      cases e2
      rcases hby2 with h0 | ⟨b2, off2, e2, _, hby2⟩
      · omega
      cases e2
      obtain ⟨k, hk, hkc⟩ := hby2 i hlt
      have HB := Lib.hid hby2; clear hby2
      refine region_flow [(false, [(0, 0), (1, 0), (2, 0), (3, 1), (4, 0), (5, 0), (6, 0), (7, 1), (8, 0), (9, 0)])] (by kernel_rfl) ?_
      refine norm_K fun K hK => ?_
      change wpList _ _ _ [_, _, _, _, _, _, _, _, _, _] _ _
      go_wp2_with fail
      first | (refine hK _ _ ⟨rfl, ?_⟩; clear hK K) | refine ⟨rfl, ?_⟩
      go_upto_region 6 with fail
      refine region_flow [(false, [(0, 0), (1, 0), (2, 0), (3, 0), (4, 1), (5, 0), (6, 0), (7, 0), (8, 1), (9, 0), (10, 1), (11, 0), (12, 0), (13, 0)])] (by kernel_rfl) ?_
      refine norm_K fun K hK => ?_
      change wpList _ _ _ [_, _, _, _, _, _, _, _, _, _, _, _, _, _] _ _
      go_wp2_with fail
      first | (refine hK _ _ ⟨rfl, ?_⟩; clear hK K) | refine ⟨rfl, ?_⟩
      have hfin := tmod_bd (x := x0 + k) (n := n) (by omega) (by omega)
      go_wp2_with fail
      go_ret
      refine ⟨_, rfl, hfin.1, .inl hfin.2, ⟨_, m, i + 1, h2, (hx2.drew.drew.set1 ((i : Int) + 1)), ?_, by omega, hwr⟩, ?_, by simp [hsz]⟩
      · exact (hc2.drew_.drew_).chg (Chg.set _ ⟨q, 1, none⟩ _) (Nat.le_refl _)
      · exact (hch.trans (Chg.drew_.trans Chg.drew_)).trans (Chg.set _ ⟨q, 1, none⟩ _)
    · have hlt2 : ¬ ((i : Int) < (m : Int)) := by omega
      refine region_flow [(false, [(0, 0), (1, 0), (2, 0), (3, 1), (4, 0), (5, 0), (6, 0), (7, 1), (8, 0), (9, 0)])] (by kernel_rfl) ?_
      refine norm_K fun K hK => ?_
      change wpList _ _ _ [_, _, _, _, _, _, _, _, _, _] _ _
      go_wp2_with fail
      first | (refine hK _ _ ⟨rfl, ?_⟩; clear hK K) | refine ⟨rfl, ?_⟩
      have hfin := tmod_bd (x := x0) (n := n) (by omega) (by omega)
      go_wp2_with fail
      go_ret
      exact ⟨_, rfl, hfin.1, .inl hfin.2, ⟨_, m, i, h2, hx2.drew, hc2.drew_, hi1, hwr⟩, hch.trans Chg.drew_, hsz⟩
set_option maxHeartbeats 2000000 in
set_option maxRecDepth 100000 in
theorem droll_c {v : Value} {n : Nat} {sd : Int} {w : World} (hc : Co w w.heap.size v n) :
    Calls Tryz.prog 18 #[v, .int .u64 sd] w fun e w' => e = .returned (.pointer (some ⟨w.heap.size, 0, none⟩)) ∧ Dce w' w.heap.size ∧ w'.heap.size = w.heap.size + 1 ∧ Below w.heap.size w w' := by
  obtain ⟨a, c, rfl, hm, hby⟩ := id hc
  go_enter Tryz.func18, Tryz.ntmps18
  go_wp2
  go_loopw [6] (fun i wr => ∃ (k : Nat) (h : Int), k ≤ n ∧ i = .int .i64 k ∧ Dx wr w.heap.size (.slice a n c) 0 h ∧ 0 ≤ h ∧ h < 18446744073709551616 ∧ wr.heap.size = w.heap.size + 1 ∧ Below w.heap.size w wr) (fun i _ => n - (intOf i).toNat)
  case atStart => exact ⟨0, IntKind.u64.wrap (IntKind.u64.wrap (sd * 7681) + n), Nat.zero_le _, rfl, heap_alloc_new w _, (wrap_u64 _).1, (wrap_u64 _).2, by simp, (by repeat (first | exact .refl _ _ | apply bwD | apply bwA | (refine bwS ?_ (by first | omega | simp <;> omega) _) | refine bwC ?_ (by assumption)))⟩
  case round =>
    obtain ⟨k, h, hk, rfl, hx, h0, h1, hsz, hb⟩ := hrel
    have c0 := hx.c0; have c1 := hx.c1; have c2 := hx.c2; have f2 := hx.f 2
    by_cases hlt : k < n
    · have hc2 := hc.bl hb (Nat.le_refl _)
      obtain ⟨a2, cc2, e2, _, hby2⟩ := id hc2
      cases e2
      rcases hby2 with hz | ⟨b2, off2, rfl, hbq, hby2⟩
      · omega
      obtain ⟨y, hy, hyc⟩ := hby2 k hlt
      have hlt2 : (k : Int) < 4096 := by omega
      have HB := Lib.hid hby2; have HC := Lib.hid hby; clear hby2 hby
      have hwr2 := wrap_u64 (IntKind.u64.wrap (IntKind.u64.wrap (h * 1099511628211) + y) + 5)
      go_wp2
      refine region_flow [(false, [(0, 0), (1, 0), (2, 0), (3, 0), (4, 1), (5, 0), (6, 0), (7, 0), (8, 0), (9, 1), (10, 0), (11, 0), (12, 0), (13, 0), (14, 0), (15, 4)])] (by kernel_rfl) ?_
      refine norm_K fun K hK => ?_
      change wpList _ _ _ [_, _, _, _, _, _, _, _, _, _, _, _, _, _, _, _] _ _
      go_wp2_with fail
      first | (refine hK _ _ ⟨rfl, ?_⟩; clear hK K) | refine ⟨rfl, ?_⟩
      go_wp2
      go_roundw
      case rel => exact ⟨k + 1, _, by omega, by go_num, hx.drew.set2 _, (wrap_u64 _).1, (wrap_u64 _).2, by simp [hsz], (hb.drew).setCell (Nat.le_refl _) _⟩
      case measure => simp [intOf]; omega
    · obtain rfl : k = n := by omega
      have hnl : ¬ ((k : Int) < (k : Int)) := by omega
      go_wp2
      go_ret
      exact ⟨rfl, ⟨_, _, 0, h, hx, hc.bl hb (Nat.le_refl _), Nat.zero_le _, h0, h1⟩, hsz, hb⟩
end Go.Proofs.YtgcelfnjijhmkaaGreat
/-
  The laws' bound on codes.
-/
namespace Go.Proofs.YtgcelfnjijhmkaaGreat
open Go.RowKit

theorem big_c {a : Option Addr} {n c : Nat} {w : World} (hn : n ≤ 9223372036854775807) :
    Calls Tryz.prog 5 #[.slice a n c] w fun e w' => e = .returned (.bool (decide (4096 < n))) ∧ w = w' := by
  by_cases h : 4096 < n
  · have h2 : (4096 : Int) < (n : Int) := by omega
    rw [decide_eq_true h]
    go_enter Tryz.func5, Tryz.ntmps5
    go_wp2
    go_ret
    exact ⟨rfl, rfl⟩
  · have h2 : ¬ (4096 : Int) < (n : Int) := by omega
    rw [decide_eq_false h]
    go_enter Tryz.func5, Tryz.ntmps5
    go_wp2
    go_ret
    exact ⟨rfl, rfl⟩
end Go.Proofs.YtgcelfnjijhmkaaGreat
