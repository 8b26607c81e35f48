/- Texts joined for a claim: CtD, CtE. -/
import Derived.Test.YtfcdhdkhfdhjfaaCtA
import Derived.Test.YtfcdhdkhfdhjfaaJbl
import Derived.Test.YtfcdhdkhfdhjfaaJbj
import Derived.Test.YtfcdhdkhfdhjfaaJba
/-
  The equations of local triples at three steps, said of octonions. No program in sight.
-/
namespace Go.Proofs.Ytfcdhdkhfdhjfaa

structure FldC (n : Nat) [NeZero n] : Prop where
  dv : ∀ a b : Fin n, a * b = 0 → a = 0 ∨ b = 0
  one : (1 : Fin n) ≠ 0
  two : (2 : Fin n) ≠ 0
  inv : ∀ a : Fin n, a ≠ 0 → ∃ b : Fin n, 4 * (b * a) = 1
theorem IsP.fldC {p : Int} (hp : IsP p) {Q : Prop} (h : ∀ (n : Nat) [NeZero n], p = (n : Int) → FldC n → Q) : Q := by
  rcases hp with rfl | rfl | rfl | rfl | rfl
  · exact h 3 rfl ⟨by decide, by decide, by decide, by decide⟩
  · exact h 5 rfl ⟨by decide, by decide, by decide, by decide⟩
  · exact h 7 rfl ⟨by decide, by decide, by decide, by decide⟩
  · exact h 11 rfl ⟨by decide, by decide, by decide, by decide⟩
  · exact h 13 rfl ⟨by decide, by decide, by decide, by decide⟩
section
variable {p : Int} {st : List Int} {n : Nat} [NeZero n]
theorem sz3 (h3 : st.length = 3) : sz st.length = 8 := by rw [h3]; rfl
theorem gam_ne (hd : Dok p st) (h3 : st.length = 3) (hn : p = n) {i : Nat} (hi : i < 3) : gam n st i ≠ 0 := fun e => by
  have hlt : i < st.length := by omega
  have hm : st.getD i 0 ∈ st := by rw [List.getD_eq_getElem?_getD, List.getElem?_eq_getElem hlt]; exact List.getElem_mem hlt
  have hb := hd.hs _ hm
  have e2 := toF_inj (n := n) hn (a := st.getD i 0) (b := 0) ⟨by omega, by omega⟩ ⟨Int.le_refl 0, by have := hd.hp.lo; omega⟩ (by rw [toF_zero]; exact e)
  omega
theorem toO_oE {i : Nat} (hi : i < 8) : toO n (oneL 8 i) = oE n i := by
  unfold toO oE
  simp only [one_at, apply_ite (toF n), toF_one, toF_zero, hi, and_true]
  simp only [eq_comm]
theorem onm_oE {g h k : Fin n} {i : Nat} (hi : i < 8) : onm g h k (oE n i) = onu g h k i := by
  rcases (show i = 0 ∨ i = 1 ∨ i = 2 ∨ i = 3 ∨ i = 4 ∨ i = 5 ∨ i = 6 ∨ i = 7 by omega) with rfl | rfl | rfl | rfl | rfl | rfl | rfl | rfl <;> (simp only [onm, oE, onu]; simp; try grind)
theorem norm_C (hd : Dok p st) {x : List Int} (hx : Ev p (sz st.length) x) (hn : p = n) : toF n (normL p st x) = onm (gam n st 0) (gam n st 1) (gam n st 2) (toO n x) := by
  have e := congrArg Oc.a0 (toO_mul (n := n) hn hd.hl hx.1 (hx.conj (show 1 ≤ p by have := hd.hp.lo; omega)).1)
  rw [toO_conj hn] at e
  show toF n ((mulL p st x (conjL p x)).getD 0 0) = _
  refine Eq.trans e ?_
  unfold omul ocj onm
  grind
theorem dgN_toF (hd : Dok p st) (h3 : st.length = 3) (hn : p = n) {i : Nat} (hi : i < 8) : toF n (dgN p st i) = onu (gam n st 0) (gam n st 1) (gam n st 2) i := by
  have h8 := sz3 h3
  have e : dgN p st i = normL p st (oneL 8 i) := by
    unfold dgN
    rw [diagF_one hd, h8, List.getD_eq_getElem?_getD, List.getElem?_map, List.getElem?_range hi]; rfl
  have ev : Ev p (sz st.length) (oneL 8 i) := by rw [h8]; exact Ev.one (by have := hd.hp.lo; omega)
  rw [e, norm_C hd ev hn, toO_oE hi, onm_oE hi]
theorem cyc_toF (hd : Dok p st) (h3 : st.length = 3) (hn : p = n) {i j k : Nat} (hi : i < 8) (hj : j < 8) (hk : k < 8) :
    toF n (cycF p st i j k) = 2 * oT (gam n st 0) (gam n st 1) (gam n st 2) (oE n i) (oE n j) (oE n k) := by
  have h8 := sz3 h3
  have ev := fun m => (Ev.one (p := p) (n := 8) (i := m) (by have := hd.hp.lo; omega))
  have em := mulL_ev (p := p) (st := st) (by have := hd.hp.lo; omega) (by rw [h8]; exact ev i) (by rw [h8]; exact ev j)
  have e1 := toO_mul (n := n) hn hd.hl (by rw [h8]; exact (ev i).1) (by rw [h8]; exact (ev j).1)
  have e2 := congrArg Oc.a0 (toO_mul (n := n) hn hd.hl em.1 (by rw [h8]; exact (ev k).1))
  rw [e1, toO_oE hi, toO_oE hj, toO_oE hk] at e2
  unfold cycF
  rw [h8]
  subst hn
  rw [toF_mod, toF_mul, toF_two]
  congr 1
  refine Eq.trans e2 ?_
  unfold oT
  rw [← omul_re, ocj_ocj]
def colO (n : Nat) [NeZero n] (v : List Int) (t i : Nat) : Oc n :=
  ⟨toF n (v.getD (t * 8 * 8 + 0 * 8 + i) 0), toF n (v.getD (t * 8 * 8 + 1 * 8 + i) 0), toF n (v.getD (t * 8 * 8 + 2 * 8 + i) 0), toF n (v.getD (t * 8 * 8 + 3 * 8 + i) 0), toF n (v.getD (t * 8 * 8 + 4 * 8 + i) 0), toF n (v.getD (t * 8 * 8 + 5 * 8 + i) 0), toF n (v.getD (t * 8 * 8 + 6 * 8 + i) 0), toF n (v.getD (t * 8 * 8 + 7 * 8 + i) 0)⟩
theorem colO_at {v : List Int} {t i r : Nat} (hr : r < 8) : ocr (colO n v t i) r = toF n (v.getD (t * 8 * 8 + r * 8 + i) 0) := by
  rcases (show r = 0 ∨ r = 1 ∨ r = 2 ∨ r = 3 ∨ r = 4 ∨ r = 5 ∨ r = 6 ∨ r = 7 by omega) with rfl | rfl | rfl | rfl | rfl | rfl | rfl | rfl <;> rfl
theorem osm_id (x : Oc n) : osm (fun r => osc (ocr x r) (oE n r)) 8 = x := by
  refine ocr_ext fun m hm => ?_
  rw [ocr_osm, fsm_congr 8 (f' := fun r => if r = m then ocr x r else 0) (fun r hr => ?_), fsm_single, if_pos hm]
  rw [ocr_osc, ocr_oE hr hm]
  split <;> grind
section
variable {g h k : Fin n}
theorem oT_1 (x y z : Oc n) : oT g h k x y z = fsm (fun r => oT g h k (oE n r) y z * ocr x r) 8 := by
  have e : oT g h k x y z = oT g h k (osm (fun r => osc (ocr x r) (oE n r)) 8) y z := by rw [osm_id]
  rw [e]
  unfold oT
  rw [omul_osml, odt_osml]
  refine fsm_congr 8 fun r _ => ?_
  rw [omul_oscl, odt_oscl]; grind
theorem oT_2 (x y z : Oc n) : oT g h k x y z = fsm (fun r => oT g h k x (oE n r) z * ocr y r) 8 := by
  have e : oT g h k x y z = oT g h k x (osm (fun r => osc (ocr y r) (oE n r)) 8) z := by rw [osm_id]
  rw [e]
  unfold oT
  rw [omul_osmr, odt_osml]
  refine fsm_congr 8 fun r _ => ?_
  rw [omul_oscr, odt_oscl]; grind
theorem oT_3 (x y z : Oc n) : oT g h k x y z = fsm (fun r => oT g h k x y (oE n r) * ocr z r) 8 := by
  have e : oT g h k x y z = oT g h k x y (osm (fun r => osc (ocr z r) (oE n r)) 8) := by rw [osm_id]
  have cjs : ∀ (f : Nat → Oc n) m, ocj (osm f m) = osm (fun i => ocj (f i)) m := by
    intro f m
    induction m with
    | zero => unfold osm ocj; apply Oc.ext <;> grind
    | succ m ih => unfold osm; rw [ocj_oad, ih]
  rw [e]
  unfold oT
  rw [cjs, odt_osmr]
  refine fsm_congr 8 fun r _ => ?_
  rw [ocj_osc, odt_oscr]; grind
end
theorem sumF_toF (f : Nat → Int) : ∀ m, toF n (sumF f m) = fsm (fun r => toF n (f r)) m
  | 0 => toF_zero n
  | m + 1 => by unfold sumF fsm; rw [toF_add, sumF_toF]
theorem skew_toF (hd : Dok p st) (h3 : st.length = 3) (hn : p = n) {v : List Int} (hl : v.length = 192) {t i k : Nat} (ht : t < 3) (hi : i < 8) (hk : k < 8) :
    toF n (dotS (skewRow p 8 (dgN p st) t i k) v) = onu (gam n st 0) (gam n st 1) (gam n st 2) i * ocr (colO n v t k) i + onu (gam n st 0) (gam n st 1) (gam n st 2) k * ocr (colO n v t i) k := by
  have e := congrArg (toF n) (skew_dot (p := p) (D := dgN p st) (n := 8) (ys := v) hl ht hi hk)
  unfold dotL at e
  rw [colO_at hi, colO_at hk, ← dgN_toF hd h3 hn hi, ← dgN_toF hd h3 hn hk]
  subst hn
  rw [toF_mod, toF_mod, toF_add, toF_mul, toF_mul] at e
  exact e
theorem form_toF (hd : Dok p st) (h3 : st.length = 3) (hn : p = n) {v : List Int} (hl : v.length = 192) {i j k : Nat} (hi : i < 8) (hj : j < 8) (hk : k < 8) :
    toF n (dotS (formRow p 8 (cycF p st) i j k 8) v) = 2 * (oT (gam n st 0) (gam n st 1) (gam n st 2) (colO n v 0 i) (oE n j) (oE n k) + oT (gam n st 0) (gam n st 1) (gam n st 2) (oE n i) (colO n v 1 j) (oE n k) + oT (gam n st 0) (gam n st 1) (gam n st 2) (oE n i) (oE n j) (colO n v 2 k)) := by
  obtain ⟨q, hq⟩ := form_dot (p := p) (F := cycF p st) (n := 8) (ys := v) hl hi hj hk 8 (Nat.le_refl _)
  rw [hq, toF_add, toF_mul, hn, toF_self, sumF_toF, oT_1 (colO n v 0 i), oT_2 (oE n i) (colO n v 1 j), oT_3 (oE n i) (oE n j) (colO n v 2 k), ← fsm_add, ← fsm_add]
  rw [fsm_congr 8 (f' := fun r => 2 * (oT (gam n st 0) (gam n st 1) (gam n st 2) (oE n r) (oE n j) (oE n k) * ocr (colO n v 0 i) r + oT (gam n st 0) (gam n st 1) (gam n st 2) (oE n i) (oE n r) (oE n k) * ocr (colO n v 1 j) r + oT (gam n st 0) (gam n st 1) (gam n st 2) (oE n i) (oE n j) (oE n r) * ocr (colO n v 2 k) r)) fun r hr => ?_]
  · have two : ∀ (f : Nat → Fin n) m, fsm (fun r => 2 * f r) m = 2 * fsm f m := by
      intro f m
      induction m with
      | zero => unfold fsm; grind
      | succ m ih => unfold fsm; rw [ih]; grind
    rw [two]; grind
  · rw [toF_add, toF_add, toF_mul, toF_mul, toF_mul, ← hn, cyc_toF hd h3 hn hr hj hk, cyc_toF hd h3 hn hi hr hk, cyc_toF hd h3 hn hi hj hr, colO_at hr, colO_at hr, colO_at hr]
    grind
theorem loc_iff (hf : FldC n) (hd : Dok p st) (h3 : st.length = 3) (hn : p = n) {v : List Int} (hl : v.length = 192) : Zro n (locP p st) v ↔
    (∀ t i k : Nat, t < 3 → i < 8 → k < 8 → onu (gam n st 0) (gam n st 1) (gam n st 2) i * ocr (colO n v t k) i + onu (gam n st 0) (gam n st 1) (gam n st 2) k * ocr (colO n v t i) k = 0) ∧
    ∀ i j k, i < 8 → j < 8 → k < 8 → oT (gam n st 0) (gam n st 1) (gam n st 2) (colO n v 0 i) (oE n j) (oE n k) + oT (gam n st 0) (gam n st 1) (gam n st 2) (oE n i) (colO n v 1 j) (oE n k) + oT (gam n st 0) (gam n st 1) (gam n st 2) (oE n i) (oE n j) (colO n v 2 k) = 0 := by
  have h8 := sz3 h3
  unfold Zro locP
  rw [h8]
  constructor
  · intro hz
    refine ⟨fun t i k ht hi hk => ?_, fun i j k hi hj hk => ?_⟩
    · by_cases hki : k ≤ i
      · rw [← skew_toF hd h3 hn hl ht hi hk]
        exact hz _ (loc_mem.2 (.inl ⟨t, i, k, ht, hi, by omega, rfl⟩))
      · have e := hz _ (loc_mem.2 (.inl ⟨t, k, i, ht, hk, by omega, rfl⟩))
        rw [skew_toF hd h3 hn hl ht hk hi] at e
        grind
    · have e := hz _ (loc_mem.2 (.inr ⟨i, j, k, hi, hj, hk, rfl⟩))
      rw [form_toF hd h3 hn hl hi hj hk] at e
      exact (hf.dv _ _ e).resolve_left hf.two
  · rintro ⟨h1, h2⟩ r hr
    rcases loc_mem.1 hr with ⟨t, i, k, ht, hi, hk, e⟩ | ⟨i, j, k, hi, hj, hk, e⟩
    · rw [e, skew_toF hd h3 hn hl ht hi (by omega)]; exact h1 t i k ht hi (by omega)
    · rw [e, form_toF hd h3 hn hl hi hj hk, h2 i j k hi hj hk]; grind
end
end Go.Proofs.Ytfcdhdkhfdhjfaa
/-
  A skew matrix has exactly one completion: lists of numbers. No program in sight.
-/
namespace Go.Proofs.Ytfcdhdkhfdhjfaa

section
variable {p : Int} {st : List Int}
theorem compl_uniq (hd : Dok p st) (h3 : st.length = 3) {n : Nat} [NeZero n] (hn : p = n) (hf : FldC n) {v : List Int} (hv : Ev p 192 v) (hz : Zro n (locP p st) v) (h0 : ∀ j, j < 64 → v.getD j 0 = 0) : v = zeroL 192 := by
  have h1 : 1 ≤ p := by have := hd.hp.lo; omega
  obtain ⟨hs, hform⟩ := (loc_iff hf hd h3 hn hv.1).1 hz
  have g0 := gam_ne hd h3 hn (show 0 < 3 by decide); have g1 := gam_ne hd h3 hn (show 1 < 3 by decide); have g2 := gam_ne hd h3 hn (show 2 < 3 by decide)
  have c0 : ∀ i, i < 8 → colO n v 0 i = ozr n := fun i hi => ocr_zero fun r hr => by
    rw [colO_at hr, h0 _ (by omega), toF_zero]
  have hb0 : (colO n v 1 0).a0 = 0 := by
    have e := hs 1 0 0 (by decide) (by decide) (by decide)
    have e2 : 2 * (colO n v 1 0).a0 = 0 := by
      have e3 : onu (gam n st 0) (gam n st 1) (gam n st 2) 0 = 1 := rfl
      have e4 : ocr (colO n v 1 0) 0 = (colO n v 1 0).a0 := rfl
      rw [e3, e4] at e
      grind
    exact (hf.dv _ _ e2).resolve_left hf.two
  have hu := loc_uniq (g := gam n st 0) (h := gam n st 1) (k := gam n st 2) hf.dv hf.one hf.two g0 g1 g2 (B := colO n v 1) (C := colO n v 2) hb0 fun i j m hi hj hm => by
    have e := hform i j m hi hj hm
    rw [c0 i hi] at e
    have z : oT (gam n st 0) (gam n st 1) (gam n st 2) (ozr n) (oE n j) (oE n m) = 0 := by
      rw [oT_1]
      refine fsm_zero 8 fun r _ => ?_
      have : ocr (ozr n) r = 0 := by unfold ocr ozr; split <;> rfl
      rw [this]; grind
    rw [z] at e
    grind
  have hall : ∀ t i r, t < 3 → i < 8 → r < 8 → v.getD (t * 8 * 8 + r * 8 + i) 0 = 0 := fun t i r ht hi hr => by
    have hz0 : ocr (ozr n) r = 0 := by unfold ocr ozr; split <;> rfl
    refine toF_inj hn (hv.at h1 _) ⟨Int.le_refl 0, by omega⟩ ?_
    rw [toF_zero, ← colO_at hr]
    rcases (show t = 0 ∨ t = 1 ∨ t = 2 by omega) with rfl | rfl | rfl
    · rw [c0 i hi, hz0]
    · rw [(hu i hi).1, hz0]
    · rw [(hu i hi).2, hz0]
  refine hv.ext (zeroL_ev h1) fun j => ?_
  rw [zero_at]
  by_cases hj : j < 192
  · have e := hall (j / 64) (j % 8) (j / 8 % 8) (by omega) (Nat.mod_lt _ (by decide)) (Nat.mod_lt _ (by decide))
    rw [show j / 64 * 8 * 8 + j / 8 % 8 * 8 + j % 8 = j by omega] at e
    exact e
  · rw [List.getD_eq_getElem?_getD, List.getElem?_eq_none (by rw [hv.1]; omega)]; rfl
theorem compl_ex (hd : Dok p st) (h3 : st.length = 3) {n : Nat} [NeZero n] (hn : p = n) (hf : FldC n) {f : List Int} (hfe : Ev p 64 f)
    (hsk : ∀ i k, i < 8 → k < 8 → (dgN p st i * f.getD (i * 8 + k) 0 + dgN p st k * f.getD (k * 8 + i) 0) % p = 0) : ∃ x, Ev p 128 x ∧ Zro n (locP p st) (f ++ x) := by
  have h1 : 1 ≤ p := by have := hd.hp.lo; omega
  have g0 := gam_ne hd h3 hn (show 0 < 3 by decide); have g1 := gam_ne hd h3 hn (show 1 < 3 by decide); have g2 := gam_ne hd h3 hn (show 2 < 3 by decide)
  have hinv : ∀ m, ∃ b : Fin n, 4 * (b * onu (gam n st 0) (gam n st 1) (gam n st 2) m) = 1 := fun m => hf.inv _ (onu_ne hf.dv hf.one g0 g1 g2 m)
  obtain ⟨c, hc⟩ : ∃ c : Nat → Fin n, ∀ m, 4 * (c m * onu (gam n st 0) (gam n st 1) (gam n st 2) m) = 1 := ⟨fun m => Classical.choose (hinv m), fun m => Classical.choose_spec (hinv m)⟩
  obtain ⟨B, hB⟩ : ∃ B, B = oB (gam n st 0) (gam n st 1) (gam n st 2) (oE n) (colO n f 0) c := ⟨_, rfl⟩
  obtain ⟨C, hC⟩ : ∃ C, C = oC (gam n st 0) (gam n st 1) (gam n st 2) (oE n) (colO n f 0) c := ⟨_, rfl⟩
  obtain ⟨x, hx⟩ : ∃ x : List Int, x = (List.range 128).map fun t => if t < 64 then ((ocr (B (oE n (t % 8))) (t / 8)).val : Int) else ((ocr (C (oE n (t % 8))) (t / 8 - 8)).val : Int) := ⟨_, rfl⟩
  have hxl : x.length = 128 := by rw [hx]; simp
  have hxa : ∀ t, t < 128 → x.getD t 0 = if t < 64 then ((ocr (B (oE n (t % 8))) (t / 8)).val : Int) else ((ocr (C (oE n (t % 8))) (t / 8 - 8)).val : Int) := fun t ht => by
    rw [hx, List.getD_eq_getElem?_getD, List.getElem?_map, List.getElem?_range ht]; rfl
  have hval : ∀ a : Fin n, toF n ((a.val : Nat) : Int) = a := fun a => by
    apply Fin.ext
    unfold toF
    show ((a.val : Int) % (n : Int)).toNat = a.val
    have := a.isLt
    rw [Int.emod_eq_of_lt (by omega) (by omega)]
    rfl
  have hxe : Ev p 128 x := ⟨hxl, fun y hy => by
    rw [hx] at hy
    obtain ⟨t, _, rfl⟩ := List.mem_map.1 hy
    rw [hn]
    split
    · have := (ocr (B (oE n (t % 8))) (t / 8)).isLt; omega
    · have := (ocr (C (oE n (t % 8))) (t / 8 - 8)).isLt; omega⟩
  have hvl : (f ++ x).length = 192 := by rw [List.length_append, hfe.1, hxl]
  have k0 : ∀ i, i < 8 → colO n (f ++ x) 0 i = colO n f 0 i := fun i hi => ocr_ext fun r hr => by
    rw [colO_at hr, colO_at hr, List.getD_eq_getElem?_getD, List.getElem?_append_left (by rw [hfe.1]; omega), ← List.getD_eq_getElem?_getD]
  have k1 : ∀ i, i < 8 → colO n (f ++ x) 1 i = B (oE n i) := fun i hi => ocr_ext fun r hr => by
    rw [colO_at hr, List.getD_eq_getElem?_getD, List.getElem?_append_right (by rw [hfe.1]; omega), hfe.1, ← List.getD_eq_getElem?_getD, hxa _ (by omega), if_pos (by omega), hval]
    rw [show (1 * 8 * 8 + r * 8 + i - 64) % 8 = i by omega, show (1 * 8 * 8 + r * 8 + i - 64) / 8 = r by omega]
  have k2 : ∀ i, i < 8 → colO n (f ++ x) 2 i = C (oE n i) := fun i hi => ocr_ext fun r hr => by
    rw [colO_at hr, List.getD_eq_getElem?_getD, List.getElem?_append_right (by rw [hfe.1]; omega), hfe.1, ← List.getD_eq_getElem?_getD, hxa _ (by omega), if_neg (by omega), hval]
    rw [show (2 * 8 * 8 + r * 8 + i - 64) % 8 = i by omega, show (2 * 8 * 8 + r * 8 + i - 64) / 8 - 8 = r by omega]
  have hsO : ∀ i m, i < 8 → m < 8 → onu (gam n st 0) (gam n st 1) (gam n st 2) m * ocr (colO n f 0 i) m + onu (gam n st 0) (gam n st 1) (gam n st 2) i * ocr (colO n f 0 m) i = 0 := fun i m hi hm => by
    have e := congrArg (toF n) (hsk m i hm hi)
    rw [colO_at hm, colO_at hi, ← dgN_toF hd h3 hn hm, ← dgN_toF hd h3 hn hi, show 0 * 8 * 8 + m * 8 + i = m * 8 + i by omega, show 0 * 8 * 8 + i * 8 + m = i * 8 + m by omega]
    rw [hn, toF_mod, ← hn, toF_add, toF_mul, toF_mul, toF_zero] at e
    exact e
  have hA : ∀ i, i < 8 → oA (gam n st 0) (gam n st 1) (gam n st 2) (oE n) (colO n f 0) c (oE n i) = colO n f 0 i := fun i hi => oA_is c (colO n f 0) (fun m _ => hc m) hsO hi
  have hsE : ∀ m, m < 8 → odt (gam n st 0) (gam n st 1) (gam n st 2) (oE n m) (colO n f 0 m) = 0 := fun m hm => by
    rw [odt_comm, odt_oE _ hm]
    have e := hsO m m hm hm
    have e2 : 2 * (onu (gam n st 0) (gam n st 1) (gam n st 2) m * ocr (colO n f 0 m) m) = 0 := by grind
    exact (hf.dv _ _ e2).resolve_left hf.two
  refine ⟨x, hxe, (loc_iff hf hd h3 hn hvl).2 ⟨fun t i k ht hi hk => ?_, fun i j k hi hj hk => ?_⟩⟩
  · rcases (show t = 0 ∨ t = 1 ∨ t = 2 by omega) with rfl | rfl | rfl
    · rw [k0 k hk, k0 i hi]
      exact hsO k i hk hi
    · rw [k1 k hk, k1 i hi, ← odt_oE _ hi, ← odt_oE _ hk, hB]
      have e := compl_skewB (g := gam n st 0) (h := gam n st 1) (k := gam n st 2) (oE n) (colO n f 0) c hsE (oE n k) (oE n i)
      rw [odt_comm (gam n st 0) (gam n st 1) (gam n st 2) (oE n k)] at e
      exact e
    · rw [k2 k hk, k2 i hi, ← odt_oE _ hi, ← odt_oE _ hk, hC]
      have e := compl_skewC (g := gam n st 0) (h := gam n st 1) (k := gam n st 2) (oE n) (colO n f 0) c hsE (oE n k) (oE n i)
      rw [odt_comm (gam n st 0) (gam n st 1) (gam n st 2) (oE n k)] at e
      exact e
  · rw [k0 i hi, k1 j hj, k2 k hk, hB, hC]
    have e := compl_form (g := gam n st 0) (h := gam n st 1) (k := gam n st 2) (oE n) (colO n f 0) c (oE n i) (oE n j) (oE n k)
    rw [hA i hi] at e
    exact e
end
end Go.Proofs.Ytfcdhdkhfdhjfaa
