/-
  Conjugations are automorphisms. No program in sight.
-/
import Derived.Test.YtgkceadllcjeoaaAuQ
import Derived.Test.YtgkceadllcjeoaaCjA
namespace Go.Proofs.Ytgkceadllcjeoaa

section
variable {n : Nat} [NeZero n] (g h k : Fin n)
theorem omul_assoc4 {x y z : Oc n} (h4 : x.a4 = 0 ∧ x.a5 = 0 ∧ x.a6 = 0 ∧ x.a7 = 0) (h5 : y.a4 = 0 ∧ y.a5 = 0 ∧ y.a6 = 0 ∧ y.a7 = 0) (h6 : z.a4 = 0 ∧ z.a5 = 0 ∧ z.a6 = 0 ∧ z.a7 = 0) :
    omul g h k (omul g h k x y) z = omul g h k x (omul g h k y z) := by
  obtain ⟨x0, x1, x2, x3, x4, x5, x6, x7⟩ := x
  obtain ⟨y0, y1, y2, y3, y4, y5, y6, y7⟩ := y
  obtain ⟨z0, z1, z2, z3, z4, z5, z6, z7⟩ := z
  obtain ⟨rfl, rfl, rfl, rfl⟩ := h4
  obtain ⟨rfl, rfl, rfl, rfl⟩ := h5
  obtain ⟨rfl, rfl, rfl, rfl⟩ := h6
  unfold omul
  apply Oc.ext <;> (simp only []; grind)
theorem toO_hi {x : List Int} (hx : x.length ≤ 4) : (toO n x).a4 = 0 ∧ (toO n x).a5 = 0 ∧ (toO n x).a6 = 0 ∧ (toO n x).a7 = 0 := by
  unfold toO
  simp only [out_at (xs := x) (j := 4) (by omega), out_at (xs := x) (j := 5) (by omega), out_at (xs := x) (j := 6) (by omega), out_at (xs := x) (j := 7) (by omega), toF_zero]
  exact ⟨trivial, trivial, trivial, trivial⟩
theorem cj_mul (x : Oc n) : omul g h k (ocj x) x = ⟨onm g h k x, 0, 0, 0, 0, 0, 0, 0⟩ := by unfold omul ocj onm; apply Oc.ext <;> (simp only []; grind)
theorem mul_cj (x : Oc n) : omul g h k x (ocj x) = ⟨onm g h k x, 0, 0, 0, 0, 0, 0, 0⟩ := by unfold omul ocj onm; apply Oc.ext <;> (simp only []; grind)
end
theorem asc_ge {m : Nat} : ∀ {l : List Nat} {b : Nat}, l.Pairwise (· < ·) → (∀ x ∈ l, b ≤ x) → (∀ j, b ≤ j → j < m → j ∈ l) → m - b ≤ l.length
  | [], b, _, _, h => by
    by_cases hb : b < m
    · exact absurd (h b (Nat.le_refl _) hb) (by simp)
    · simp; omega
  | x :: l, b, hp, hx, h => by
    obtain ⟨h1, h2⟩ := List.pairwise_cons.1 hp
    by_cases hb : b < m
    · have hxb : x = b := by
        rcases List.mem_cons.1 (h b (Nat.le_refl _) hb) with e | e
        · exact e.symm
        · have := h1 b e; have := hx x (List.mem_cons_self ..); omega
      have ih := asc_ge (m := m) (b := b + 1) h2 (fun y hy => by have := h1 y hy; omega) (fun j hj hjm => by
        rcases List.mem_cons.1 (h j (by omega) hjm) with e | e
        · omega
        · exact e)
      rw [List.length_cons]; omega
    · omega
section
variable {p : Int} {st : List Int}
theorem mul_assoc4 (hd : Dok p st) (h2 : st.length ≤ 2) {x y z : List Int} (hx : Ev p (sz st.length) x) (hy : Ev p (sz st.length) y) (hz : Ev p (sz st.length) z) :
    mulL p st (mulL p st x y) z = mulL p st x (mulL p st y z) := by
  have h1 : 1 ≤ p := by have := hd.hp.lo; omega
  have h4 : sz st.length ≤ 4 := Nat.le_trans (Nat.pow_le_pow_right (by decide) h2) (by decide)
  have exy := mulL_ev (st := st) h1 hx hy; have eyz := mulL_ev (st := st) h1 hy hz
  refine hd.hp.nat fun n _ hn => toO_inj (n := n) hn (sz_le hd).2 (mulL_ev h1 exy hz) (mulL_ev h1 hx eyz) ?_
  rw [toO_mul hn hd.hl exy.1 hz.1, toO_mul hn hd.hl hx.1 hy.1, toO_mul hn hd.hl hx.1 eyz.1, toO_mul hn hd.hl hy.1 hz.1]
  exact omul_assoc4 _ _ _ (toO_hi (by rw [hx.1]; exact h4)) (toO_hi (by rw [hy.1]; exact h4)) (toO_hi (by rw [hz.1]; exact h4))
theorem mul_one' (hd : Dok p st) {x : List Int} (hx : Ev p (sz st.length) x) : mulL p st x (oneL (sz st.length) 0) = x := by
  have h2 : 2 ≤ p := by have := hd.hp.lo; omega
  refine hd.hp.nat fun n _ hn => toO_inj (n := n) hn (sz_le hd).2 (mulL_ev (by omega) hx (Ev.one h2)) hx ?_
  rw [toO_mul hn hd.hl hx.1 (Ev.one (p := p) (n := sz st.length) (i := 0) h2).1, toO_unit]
  have h0 : 0 < sz st.length := (sz_le hd).1
  simp only [h0, and_true, if_true, if_neg (show ¬ (1 : Nat) = 0 by decide), if_neg (show ¬ (2 : Nat) = 0 by decide), if_neg (show ¬ (3 : Nat) = 0 by decide), if_neg (show ¬ (4 : Nat) = 0 by decide), if_neg (show ¬ (5 : Nat) = 0 by decide), if_neg (show ¬ (6 : Nat) = 0 by decide), if_neg (show ¬ (7 : Nat) = 0 by decide)]
  unfold omul
  apply Oc.ext <;> (simp only []; grind)
theorem inv_both (hd : Dok p st) {a : List Int} (ha : Ev p (sz st.length) a) (hn0 : normL p st a ≠ 0) :
    mulL p st (cjB p st a) a = oneL (sz st.length) 0 ∧ mulL p st a (cjB p st a) = oneL (sz st.length) 0 := by
  have h1 : 1 ≤ p := by have := hd.hp.lo; omega
  have h2 : 2 ≤ p := by have := hd.hp.lo; omega
  have hc := ha.conj h1
  have eB : Ev p (sz st.length) (cjB p st a) := Ev.scale h1 hc
  have nb := normL_fp (p := p) (st := st) (x := a) h1
  obtain ⟨_, i1, _⟩ := inv_tab hd.hp (a := normL p st a) (by omega) nb.2
  have h0 : 0 < sz st.length := (sz_le hd).1
  have fin : ∀ {n : Nat} [NeZero n] (hn : p = n), toO n (cjB p st a) = osc (toF n (invL p (normL p st a))) (ocj (toO n a)) ∧ toF n (invL p (normL p st a)) * onm (gam n st 0) (gam n st 1) (gam n st 2) (toO n a) = 1 := fun {n} _ hn => by
    have hN : toF n (normL p st a) = onm (gam n st 0) (gam n st 1) (gam n st 2) (toO n a) := by
      have e := congrArg Oc.a0 (toO_mul (n := n) hn hd.hl ha.1 hc.1)
      rw [toO_conj hn] at e
      show toF n ((mulL p st a (conjL p a)).getD 0 0) = _
      refine Eq.trans e ?_
      unfold omul ocj onm
      grind
    refine ⟨by unfold cjB; rw [toO_scale hn, toO_conj hn], ?_⟩
    rw [← hN, ← toF_mul, Int.mul_comm, ← toF_mod, ← hn, i1, toF_one]
  have one8 : ∀ {n : Nat} [NeZero n], toO n (oneL (sz st.length) 0) = ⟨1, 0, 0, 0, 0, 0, 0, 0⟩ := fun {n} _ => by
    rw [toO_unit]
    simp only [h0, and_true, if_true, if_neg (show ¬ (1 : Nat) = 0 by decide), if_neg (show ¬ (2 : Nat) = 0 by decide), if_neg (show ¬ (3 : Nat) = 0 by decide), if_neg (show ¬ (4 : Nat) = 0 by decide), if_neg (show ¬ (5 : Nat) = 0 by decide), if_neg (show ¬ (6 : Nat) = 0 by decide), if_neg (show ¬ (7 : Nat) = 0 by decide)]
  constructor
  · refine hd.hp.nat fun n _ hn => toO_inj (n := n) hn (sz_le hd).2 (mulL_ev h1 eB ha) (Ev.one h2) ?_
    obtain ⟨f1, f2⟩ := fin hn
    rw [toO_mul hn hd.hl eB.1 ha.1, f1, omul_oscl, cj_mul, one8]
    unfold osc
    apply Oc.ext <;> (simp only []; grind)
  · refine hd.hp.nat fun n _ hn => toO_inj (n := n) hn (sz_le hd).2 (mulL_ev h1 ha eB) (Ev.one h2) ?_
    obtain ⟨f1, f2⟩ := fin hn
    rw [toO_mul hn hd.hl ha.1 eB.1, f1, omul_oscr, mul_cj, one8]
    unfold osc
    apply Oc.ext <;> (simp only []; grind)
theorem two_sided (hd : Dok p st) {a b : List Int} (ha : Ev p (sz st.length) a) (hb : Ev p (sz st.length) b) :
    matB p (sz st.length) (trL ((List.range (sz st.length)).map (cjF p st a b)) (sz st.length)) = true ∧
    (∀ i, i < sz st.length → colL (trL ((List.range (sz st.length)).map (cjF p st a b)) (sz st.length)) i = cjF p st a b i) ∧
    ∀ x, Ev p (sz st.length) x → applyL p (trL ((List.range (sz st.length)).map (cjF p st a b)) (sz st.length)) x = mulL p st (mulL p st a x) b := by
  have h1 : 1 ≤ p := by have := hd.hp.lo; omega
  have h2 : 2 ≤ p := by have := hd.hp.lo; omega
  have eone : ∀ i, Ev p (sz st.length) (oneL (sz st.length) i) := fun i => Ev.one h2
  have ev : ∀ i, Ev p (sz st.length) (cjF p st a b i) := fun i => mulL_ev h1 (mulL_ev h1 ha (eone i)) hb
  have hM := trL_mat (p := p) (L := (List.range (sz st.length)).map (cjF p st a b)) (n := sz st.length) h1 (by simp) (fun c hc => by obtain ⟨i, _, rfl⟩ := List.mem_map.1 hc; exact ev i)
  have hcol : ∀ i, i < sz st.length → colL (trL ((List.range (sz st.length)).map (cjF p st a b)) (sz st.length)) i = cjF p st a b i := fun i hi => by
    rw [col_tr (by simp) (fun c hc => by obtain ⟨i, _, rfl⟩ := List.mem_map.1 hc; exact (ev i).1) hi]
    simp [List.getD_eq_getElem?_getD, hi]
  refine ⟨hM, hcol, fun x hx => ?_⟩
  refine sp_ind (P := fun x => applyL p _ x = mulL p st (mulL p st a x) b) h1 ?_ ?_ hx
  · rw [apply_zero h1 hM, mul_zeror hd ha, mul_zerol hd hb]
  · intro x i c ex hi ih
    rw [apply_plus hd.hp ((eone i).1.trans ex.1.symm), ih, apply_unit h1 hM hi, hcol i hi, mul_plusr hd ex (eone i) ha, mul_plusl hd (mulL_ev h1 ha ex) (mulL_ev h1 ha (eone i)) hb]
    rfl
theorem comb_at {n : Nat} [NeZero n] {m : Nat} (hn : p = n) {j : Nat} : ∀ {rows : List (List Int)} {cs : List Int}, Rw p m rows → toF n ((comb p m cs rows).getD j 0) = toF n (dotS cs (colL rows j))
  | [], [], _ => by show toF n ((zeroL m).getD j 0) = toF n 0; rw [zero_at]
  | [], _ :: _, _ => by show toF n ((zeroL m).getD j 0) = toF n 0; rw [zero_at]
  | _ :: _, [], _ => by show toF n ((zeroL m).getD j 0) = toF n 0; rw [zero_at]
  | r :: rs, c :: cs, h => by
    have hp : 1 ≤ p := by have := Nat.pos_of_neZero n; omega
    show toF n ((plusL p (comb p m cs rs) r c).getD j 0) = toF n (c * r.getD j 0 + dotS cs (colL rs j))
    rw [pat (comb_ev hp h.cons.2) h.cons.1, hn, toF_mod, ← hn, toF_add, toF_add, comb_at hn h.cons.2]
    grind
theorem det_of_inv (hp : IsP p) {m : Nat} {M N : List (List Int)} (hM : matB p m M = true) (hN : matB p m N = true) (h : ∀ j, j < m → applyL p N (colL M j) = oneL m j) : detL p M ≠ 0 := by
  obtain ⟨l1, w1⟩ := matB_iff.1 hM
  obtain ⟨l2, w2⟩ := matB_iff.1 hN
  have h1 : 1 ≤ p := by have := hp.lo; omega
  have h2 : 2 ≤ p := by have := hp.lo; omega
  rw [det_red hp w1 l1]
  obtain ⟨hR, hS⟩ := redL_rref (m := m) hp w1
  have hin : ∀ i, i < m → i ∈ (redL p M).map leadN := fun i hi => by
    have hs : Spn p m M (oneL m i) := by
      refine ⟨N.getD i [], by rw [List.getD_eq_getElem?_getD, List.getElem?_eq_getElem (by omega), l1]; exact (w2 _ (List.getElem_mem _)).1, ?_⟩
      refine (Ev.one h2).ext (comb_ev h1 w1) fun j => ?_
      by_cases hj : j < m
      · refine hp.nat fun n _ hn => ?_
        have e := congrArg (fun l => l.getD i 0) (h j hj)
        unfold applyL at e
        simp only [List.getD_eq_getElem?_getD, List.getElem?_map, List.getElem?_eq_getElem (show i < N.length by omega), Option.map_some, Option.getD_some] at e
        have e2 : toF n (dotS N[i] (colL M j)) = toF n ((oneL m j).getD i 0) := by
          rw [List.getD_eq_getElem?_getD, ← e, hn]; unfold dotL; rw [toF_mod]
        have e3 := comb_at (n := n) (m := m) hn (j := j) (rows := M) (cs := N.getD i []) w1
        rw [show N.getD i [] = N[i] by rw [List.getD_eq_getElem?_getD, List.getElem?_eq_getElem (by omega)]; rfl] at e3 ⊢
        rw [e2, one_at] at e3
        have b1 := (comb_ev (m := m) h1 (cs := N[i]) w1).md h1 j
        have e4 : toF n ((oneL m i).getD j 0) = toF n ((comb p m N[i] M).getD j 0) := by
          rw [e3, one_at]
          congr 1
          by_cases hij : j = i
          · subst hij; simp [hj]
          · rw [if_neg (fun h => hij h.1), if_neg (fun h => hij h.1.symm)]
        rw [toF_eq, ← hn, b1, (Ev.one (p := p) (n := m) (i := i) h2).md h1] at e4
        exact e4
      · rw [out_at (by rw [oneL_len]; omega), out_at (by rw [(comb_ev (m := m) h1 w1).1]; omega)]
    have hl : leadN (oneL m i) = i := lead_is (by rw [one_at, if_pos ⟨rfl, hi⟩]; decide) (fun j hj => by rw [one_at, if_neg (fun h => by omega)])
    have := hR.lead h2 ((hS _).2 hs) (by rw [hl]; exact hi)
    rwa [hl] at this
  have a1 := asc_ge (m := m) (b := 0) hR.asc (fun _ _ => Nat.zero_le _) (fun j _ hj => hin j hj)
  have a2 := asc_le (m := m) (b := 0) hR.asc (fun x hx => by obtain ⟨r, hr, rfl⟩ := List.mem_map.1 hx; exact ⟨Nat.zero_le _, (hR.one r hr).1⟩)
  rw [List.length_map] at a1 a2
  omega
theorem cj_aut (hd : Dok p st) (h2s : st.length ≤ 2) {a : List Int} (ha : Ev p (sz st.length) a) (hn0 : normL p st a ≠ 0) : matB p (sz st.length) (cjM p st a) = true ∧ autK p st (cjM p st a) = true := by
  have h1 : 1 ≤ p := by have := hd.hp.lo; omega
  have h2 : 2 ≤ p := by have := hd.hp.lo; omega
  have eB : Ev p (sz st.length) (cjB p st a) := Ev.scale h1 (ha.conj h1)
  obtain ⟨i1, i2⟩ := inv_both hd ha hn0
  obtain ⟨m1, m2, m3⟩ := two_sided hd ha eB
  obtain ⟨n1, _, n3⟩ := two_sided hd eB ha
  have eone : ∀ i, Ev p (sz st.length) (oneL (sz st.length) i) := fun i => Ev.one h2
  have asc4 : ∀ {x y z}, Ev p (sz st.length) x → Ev p (sz st.length) y → Ev p (sz st.length) z → mulL p st (mulL p st x y) z = mulL p st x (mulL p st y z) := fun hx hy hz => mul_assoc4 hd h2s hx hy hz
  refine ⟨m1, ?_⟩
  have hdt : detL p (cjM p st a) ≠ 0 := det_of_inv hd.hp m1 n1 fun j hj => by
    rw [show colL (cjM p st a) j = mulL p st (mulL p st a (oneL (sz st.length) j)) (cjB p st a) from m2 j hj, n3 _ (mulL_ev h1 (mulL_ev h1 ha (eone j)) eB)]
    show mulL p st (mulL p st (cjB p st a) (mulL p st (mulL p st a (oneL (sz st.length) j)) (cjB p st a))) a = _
    rw [asc4 eB (mulL_ev h1 (mulL_ev h1 ha (eone j)) eB) ha, asc4 (mulL_ev h1 ha (eone j)) eB ha, i1, mul_one' hd (mulL_ev h1 ha (eone j)), ← asc4 eB ha (eone j), i1, one_mul hd (eone j)]
  unfold autK
  rw [Bool.and_eq_true]
  refine ⟨by simpa using hdt, List.all_eq_true.2 fun i hi => List.all_eq_true.2 fun k hk => decide_eq_true ?_⟩
  have hi := List.mem_range.1 hi; have hk := List.mem_range.1 hk
  have eik := mulL_ev (st := st) h1 (eone i) (eone k)
  rw [show colL (cjM p st a) i = cjF p st a (cjB p st a) i from m2 i hi, show colL (cjM p st a) k = cjF p st a (cjB p st a) k from m2 k hk, show applyL p (cjM p st a) _ = _ from m3 _ eik]
  show _ = mulL p st (mulL p st (mulL p st a (oneL (sz st.length) i)) (cjB p st a)) (mulL p st (mulL p st a (oneL (sz st.length) k)) (cjB p st a))
  have eai := mulL_ev (st := st) h1 ha (eone i); have eak := mulL_ev (st := st) h1 ha (eone k)
  rw [asc4 eai eB (mulL_ev h1 eak eB), ← asc4 eB eak eB, ← asc4 eB ha (eone k), i1, one_mul hd (eone k), ← asc4 eai (eone k) eB, asc4 ha (eone i) (eone k)]
end
end Go.Proofs.Ytgkceadllcjeoaa
