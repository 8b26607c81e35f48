/-
  Automorphisms keep first numbers, norms and the form; the matrix that images lead to leads as told. No program in sight.
-/
import Derived.Test.YtgkceadllcjeoaaJbd
import Derived.Test.YtgkceadllcjeoaaTgB
namespace Go.Proofs.Ytgkceadllcjeoaa

theorem IsP.fld {p : Int} (hp : IsP p) {Q : Prop} (h : ∀ (n : Nat) [NeZero n], p = (n : Int) → (∀ a b : Fin n, a * b = 0 → a = 0 ∨ b = 0) → (∀ a b : Fin n, a + a = b + b → a = b) → Q) : Q := by
  rcases hp with rfl | rfl | rfl | rfl | rfl
  · exact h 3 rfl (by decide) (by decide)
  · exact h 5 rfl (by decide) (by decide)
  · exact h 7 rfl (by decide) (by decide)
  · exact h 11 rfl (by decide) (by decide)
  · exact h 13 rfl (by decide) (by decide)
section
variable {p : Int} {st : List Int} {M : List (List Int)} {m : Nat}
theorem quad_eq (hd : Dok p st) {x : List Int} (hx : Ev p (sz st.length) x) : mulL p st x x = plusL p (scaleL p x (2 * x.getD 0 0)) (oneL (sz st.length) 0) (-(normL p st x)) := by
  have h2 : 2 ≤ p := by have := hd.hp.lo; omega
  have es := Ev.scale (k := 2 * x.getD 0 0) (show 1 ≤ p by omega) hx
  have eo : Ev p (sz st.length) (oneL (sz st.length) 0) := Ev.one h2
  have h0 : 0 < sz st.length := (sz_le hd).1
  refine hd.hp.nat fun n _ hn => toO_inj (n := n) hn (sz_le hd).2 (mulL_ev (by omega) hx hx) (es.plus (by omega) eo) ?_
  have hN : toF n (normL p st x) = onm (gam n st 0) (gam n st 1) (gam n st 2) (toO n x) := by
    have e := congrArg Oc.a0 (toO_mul (n := n) hn hd.hl hx.1 (hx.conj (show 1 ≤ p by omega)).1)
    rw [toO_conj hn] at e
    show toF n ((mulL p st x (conjL p x)).getD 0 0) = _
    refine Eq.trans e ?_
    unfold omul ocj onm
    grind
  rw [toO_mul hn hd.hl hx.1 hx.1, toO_plus hn (eo.1.trans es.1.symm), toO_scale hn, toO_unit, toF_neg, hN, toF_mul, toF_two]
  have ha : toF n (x.getD 0 0) = (toO n x).a0 := rfl
  rw [ha]
  simp only [h0, and_true, if_true, if_neg (show ¬ (1 : Nat) = 0 by decide), if_neg (show ¬ (2 : Nat) = 0 by decide), if_neg (show ¬ (3 : Nat) = 0 by decide), if_neg (show ¬ (4 : Nat) = 0 by decide), if_neg (show ¬ (5 : Nat) = 0 by decide), if_neg (show ¬ (6 : Nat) = 0 by decide), if_neg (show ¬ (7 : Nat) = 0 by decide)]
  generalize toO n x = X
  unfold omul oad osc onm
  apply Oc.ext <;> (simp only []; grind)
theorem aut_keep (hd : Dok p st) (hM : matB p (sz st.length) M = true)
    (h : ∀ i, i < sz st.length → ∀ k, k < sz st.length → applyL p M (mulL p st (oneL (sz st.length) i) (oneL (sz st.length) k)) = mulL p st (colL M i) (colL M k))
    (hone : applyL p M (oneL (sz st.length) 0) = oneL (sz st.length) 0) (hinj : ∀ v, Ev p (sz st.length) v → applyL p M v = zeroL (sz st.length) → v = zeroL (sz st.length))
    {x : List Int} (hx : Ev p (sz st.length) x) : (applyL p M x).getD 0 0 = x.getD 0 0 ∧ normL p st (applyL p M x) = normL p st x := by
  have h1 : 1 ≤ p := by have := hd.hp.lo; omega
  have h2 : 2 ≤ p := by have := hd.hp.lo; omega
  have hu := applyL_ev h1 hM x
  have eo : Ev p (sz st.length) (oneL (sz st.length) 0) := Ev.one h2
  have es := Ev.scale (k := 2 * x.getD 0 0) h1 hx
  have q1 := congrArg (applyL p M) (quad_eq hd hx)
  rw [aut_mul hd hM h hx hx, apply_plus hd.hp (eo.1.trans es.1.symm), hone, scale_plus h1 hx, apply_plus hd.hp (hx.1.trans (zeroL_ev h1).1.symm), apply_zero h1 hM, ← scale_plus h1 hu] at q1
  have q2 := quad_eq hd hu
  rw [q1] at q2
  generalize hU : applyL p M x = u at *
  by_cases hall : ∀ j, 1 ≤ j → u.getD j 0 = 0
  · have eu : u = plusL p (zeroL (sz st.length)) (oneL (sz st.length) 0) (u.getD 0 0) := by
      refine hu.ext ((zeroL_ev h1).plus h1 eo) fun j => ?_
      rw [pat (zeroL_ev h1) eo, zero_at, one_at, Int.zero_add]
      by_cases hj : j = 0
      · subst hj; rw [if_pos ⟨rfl, (sz_le hd).1⟩, Int.mul_one, hu.md h1]
      · rw [if_neg fun e => hj e.1, Int.mul_zero, Int.zero_emod, hall j (by omega)]
    have ev := hx.plus (k := -(u.getD 0 0)) h1 eo
    have hz : applyL p M (plusL p x (oneL (sz st.length) 0) (-(u.getD 0 0))) = zeroL (sz st.length) := by
      rw [apply_plus hd.hp (eo.1.trans hx.1.symm), hone, hU]
      refine (hu.plus h1 eo).ext (zeroL_ev h1) fun j => ?_
      rw [pat hu eo, zero_at, one_at]
      by_cases hj : j = 0
      · subst hj; rw [if_pos ⟨rfl, (sz_le hd).1⟩, Int.mul_one, show u.getD 0 0 + -(u.getD 0 0) = 0 by omega, Int.zero_emod]
      · rw [if_neg fun e => hj e.1, Int.mul_zero, Int.add_zero, hall j (by omega), Int.zero_emod]
    have hxz := hinj _ ev hz
    have hxu : x = u := by
      refine hx.ext hu fun j => ?_
      have e := congrArg (fun l => l.getD j 0) hxz
      simp only [pat hx eo, zero_at, one_at] at e
      by_cases hj : j = 0
      · subst hj
        rw [if_pos ⟨rfl, (sz_le hd).1⟩, Int.mul_one] at e
        have b1 := hx.at h1 0; have b2 := hu.at h1 0
        refine hd.hp.nat fun n _ hn => ?_
        have e2 : toF n (x.getD 0 0) = toF n (u.getD 0 0) := by
          have e3 : toF n (x.getD 0 0 + -(u.getD 0 0)) = 0 := by rw [← toF_mod, ← hn, e, toF_zero]
          rw [toF_add, toF_neg] at e3
          grind
        rw [toF_eq, ← hn, hx.md h1, hu.md h1] at e2
        exact e2
      · rw [if_neg fun e => hj e.1, Int.mul_zero, Int.add_zero, hx.md h1] at e
        rw [e, hall j (by omega)]
    rw [hxu]; exact ⟨rfl, rfl⟩
  · obtain ⟨j, hj⟩ := Classical.not_forall.1 hall
    obtain ⟨hj1, hj2⟩ := Classical.not_imp.1 hj
    have eu := Ev.scale (k := 2 * x.getD 0 0) h1 hu
    have eu2 := Ev.scale (k := 2 * u.getD 0 0) h1 hu
    have c0 := congrArg (fun l => l.getD 0 0) q2
    have cj := congrArg (fun l => l.getD j 0) q2
    simp only [pat eu eo, pat eu2 eo, scale_at, one_at] at c0 cj
    rw [if_pos ⟨trivial, (sz_le hd).1⟩, Int.mul_one, Int.mul_one] at c0
    rw [if_neg (fun e => by omega), Int.mul_zero, Int.mul_zero, Int.add_zero, Int.add_zero] at cj
    have b0 := hx.at h1 0; have b1 := hu.at h1 0; have bj := hu.at h1 j
    have n0 := normL_fp (p := p) (st := st) (x := x) h1; have n1 := normL_fp (p := p) (st := st) (x := u) h1
    have key : u.getD 0 0 = x.getD 0 0 := by
      refine hd.hp.fld fun n _ hn hf htw => ?_
      subst hn
      rw [Int.emod_emod, Int.emod_emod, ← toF_eq, toF_mul, toF_mul, toF_mul, toF_mul, toF_two] at cj
      have hjn : toF n (u.getD j 0) ≠ 0 := fun e => hj2 (by
        rw [← toF_zero, toF_eq, hu.md h1, Int.zero_emod] at e
        exact e)
      have e0 : toF n (u.getD j 0) * (2 * toF n (x.getD 0 0) - 2 * toF n (u.getD 0 0)) = 0 := by grind
      have e1 := (hf _ _ e0).resolve_left hjn
      have e2 : toF n (u.getD 0 0) = toF n (x.getD 0 0) := htw _ _ (by grind)
      rw [toF_eq, hx.md h1, hu.md h1] at e2
      exact e2
    refine ⟨key, ?_⟩
    rw [key] at c0
    refine hd.hp.nat fun n _ hn => ?_
    subst hn
    rw [← toF_eq, toF_add, toF_add, toF_neg, toF_neg] at c0
    have e2 : toF n (normL (n : Int) st u) = toF n (normL (n : Int) st x) := by grind
    rw [toF_eq, Int.emod_eq_of_lt n0.1 n0.2, Int.emod_eq_of_lt n1.1 n1.2] at e2
    exact e2
theorem dotD_polar {n : Nat} [NeZero n] (hp : p = n) : ∀ {d x y : List Int}, y.length = x.length → toF n (dotD d (plusL p x y 1) (plusL p x y 1)) = toF n (dotD d x x) + (toF n (dotD d x y) + toF n (dotD d x y)) + toF n (dotD d y y)
  | [], x, y, _ => by
    have e : ∀ a b : List Int, dotD [] a b = 0 := fun a b => by cases a <;> cases b <;> rfl
    simp only [e, toF_zero]; grind
  | d :: ds, [], y, h => by
    obtain rfl : y = [] := List.length_eq_zero_iff.1 (by simpa using h)
    show toF n 0 = toF n 0 + (toF n 0 + toF n 0) + toF n 0
    rw [toF_zero]; grind
  | d :: ds, x :: xs, [], h => by simp at h
  | d :: ds, x :: xs, y :: ys, h => by
    have ih := dotD_polar hp (d := ds) (x := xs) (y := ys) (by simpa using h)
    show toF n (d * ((x + 1 * y) % p) * ((x + 1 * y) % p) + dotD ds (plusL p xs ys 1) (plusL p xs ys 1)) = toF n (d * x * x + dotD ds xs xs) + (toF n (d * x * y + dotD ds xs ys) + toF n (d * x * y + dotD ds xs ys)) + toF n (d * y * y + dotD ds ys ys)
    subst hp
    simp only [toF_add, toF_mul, toF_mod, ih, toF_one]
    grind
theorem keep_iso (hd : Dok p st) (hM : matB p (sz st.length) M = true) (hk : ∀ x, Ev p (sz st.length) x → normL p st (applyL p M x) = normL p st x) : isoK p (diagF p st) M = true := by
  have h1 : 1 ≤ p := by have := hd.hp.lo; omega
  have h2 : 2 ≤ p := by have := hd.hp.lo; omega
  obtain ⟨hl, _⟩ := matB_iff.1 hM
  have eone : ∀ i, Ev p (sz st.length) (oneL (sz st.length) i) := fun i => Ev.one h2
  refine List.all_eq_true.2 fun i hi => List.all_eq_true.2 fun k hk2 => ?_
  have hi : i < sz st.length := by rw [← hl]; exact List.mem_range.1 hi
  have hk2 : k < sz st.length := by rw [← hl]; exact List.mem_range.1 hk2
  rw [beq_iff_eq]
  obtain ⟨q, hq⟩ := dotK_mod (p := p) (d := diagF p st) (x := colL M i) (y := colL M k)
  rw [hq]
  refine hd.hp.fld fun n _ hn hf htw => ?_
  have nd : ∀ {x}, Ev p (sz st.length) x → toF n (normL p st x) = toF n (dotD (diagF p st) x x) := fun hx => by rw [norm_diag h2 hx, hn, toF_mod]; rfl
  have ci := colL_ev h1 hM i; have ck := colL_ev h1 hM k
  have ki := hk _ (eone i); have kk := hk _ (eone k)
  rw [apply_unit h1 hM hi] at ki; rw [apply_unit h1 hM hk2] at kk
  have fi := congrArg (toF n) ki; have fk := congrArg (toF n) kk
  rw [nd ci, diag_one hd hi] at fi; rw [nd ck, diag_one hd hk2] at fk
  have main : toF n (dotD (diagF p st) (colL M i) (colL M k)) = toF n (if i = k then (diagF p st).getD i 0 else 0) := by
    by_cases e : i = k
    · subst e; rw [if_pos rfl]; exact fi
    · rw [if_neg e, toF_zero]
      have eik := (eone i).plus (k := 1) h1 (eone k)
      have ks := congrArg (toF n) (hk _ eik)
      rw [apply_plus hd.hp ((eone k).1.trans (eone i).1.symm), apply_unit h1 hM hi, apply_unit h1 hM hk2, nd (ci.plus h1 ck), nd eik, dotD_polar hn (ck.1.trans ci.1.symm), dotD_polar hn ((eone k).1.trans (eone i).1.symm), fi, fk,
        ← nd (eone i), ← nd (eone k), diag_one hd hi, diag_one hd hk2, dotD_sup (one_sup (i := i)), one_at (i := k), if_neg (fun h => e h.1), Int.mul_zero, toF_zero] at ks
      exact htw _ _ (by grind)
  have e2 : toF n (dotD (diagF p st) (colL M i) (colL M k) + p * q - if i = k then (diagF p st).getD i 0 else 0) = 0 := by
    rw [toF_sub, toF_add, toF_mul, main, hn, toF_self]; grind
  rw [← toF_zero, toF_eq, ← hn, Int.zero_emod] at e2
  exact e2
/-! ### The matrix that images lead to -/
theorem col_tr {L : List (List Int)} {n i : Nat} (hl : L.length = n) (hw : ∀ r ∈ L, r.length = n) (hi : i < n) : colL (trL L n) i = L.getD i [] := by
  have hr : (L.getD i []).length = n := by
    rw [List.getD_eq_getElem?_getD, List.getElem?_eq_getElem (by omega)]
    exact hw _ (List.getElem_mem _)
  refine ext_at (by unfold colL; rw [List.length_map, trL_len, hr]) fun j hj => ?_
  have hj : j < n := by unfold colL at hj; rw [List.length_map, trL_len] at hj; exact hj
  rw [colL_at (by rw [trL_len]; exact hj)]
  unfold trL colL
  simp only [List.getElem_map, List.getElem_range, List.getD_eq_getElem?_getD, List.getElem?_map]
  rw [List.getElem?_eq_getElem (show i < L.length by omega)]
  rfl
theorem afI_pre : ∀ {ims cols : List (List Int)} {i : Nat}, i < cols.length → (afI p st cols ims).getD i [] = cols.getD i []
  | [], cols, i, _ => rfl
  | im :: r, cols, i, h => by
    show (afI p st (cols ++ cols.map fun x => mulL p st x im) r).getD i [] = _
    rw [afI_pre (by rw [List.length_append]; omega), List.getD_eq_getElem?_getD, List.getElem?_append_left h, List.getD_eq_getElem?_getD]
theorem afC_at (hd : Dok p st) {ims : List (List Int)} (h : ∀ c ∈ ims, Ev p (sz st.length) c) {j : Nat} (hj : j < ims.length) : (afC p st ims).getD (2 ^ j) [] = ims[j] := by
  have key : ∀ (ims : List (List Int)) (j : Nat) (hj : j < ims.length), (∀ c ∈ ims, Ev p (sz st.length) c) → ∀ (ds : List (List Int)) (k : Nat), (oneL (sz st.length) 0 :: ds).length = 2 ^ k → (afI p st (oneL (sz st.length) 0 :: ds) ims).getD (2 ^ (k + j)) [] = ims[j] := by
    intro ims
    induction ims with
    | nil => intro j hj; simp at hj
    | cons im r ih =>
      intro j hj he ds k hk
      show (afI p st ((oneL (sz st.length) 0 :: ds) ++ (oneL (sz st.length) 0 :: ds).map fun x => mulL p st x im) r).getD (2 ^ (k + j)) [] = _
      have hlen : ((oneL (sz st.length) 0 :: ds) ++ (oneL (sz st.length) 0 :: ds).map fun x => mulL p st x im).length = 2 ^ (k + 1) := by
        rw [List.length_append, List.length_map, hk, Nat.pow_succ]; omega
      cases j with
      | zero =>
        rw [afI_pre (by rw [hlen, Nat.add_zero, Nat.pow_succ]; have := Nat.pow_pos (n := k) (show 0 < 2 by decide); omega), Nat.add_zero, List.getD_eq_getElem?_getD, List.getElem?_append_right (by omega), hk, Nat.sub_self]
        show mulL p st (oneL (sz st.length) 0) im = im
        exact one_mul hd (he im (List.mem_cons_self ..))
      | succ j =>
        have := ih j (by simpa using hj) (fun c hc => he c (List.mem_cons_of_mem _ hc)) (ds ++ (oneL (sz st.length) 0 :: ds).map fun x => mulL p st x im) (k + 1) (by rw [← List.cons_append]; exact hlen)
        rw [← List.cons_append] at this
        rw [show k + (j + 1) = k + 1 + j by omega]
        exact this
  have := key ims j hj h [] 0 (by simp)
  rw [Nat.zero_add] at this
  exact this
theorem af_facts (hd : Dok p st) {ims : List (List Int)} (h : ∀ c ∈ ims, Ev p (sz st.length) c) (hl : ims.length = st.length) :
    matB p (sz st.length) (afM p st ims) = true ∧ applyL p (afM p st ims) (oneL (sz st.length) 0) = oneL (sz st.length) 0 ∧ ∀ j (hj : j < ims.length), applyL p (afM p st ims) (oneL (sz st.length) (2 ^ j)) = ims[j] := by
  have h1 : 1 ≤ p := by have := hd.hp.lo; omega
  have h2 : 2 ≤ p := by have := hd.hp.lo; omega
  have hC : (afC p st ims).length = sz st.length := by rw [afC_len, hl]; rfl
  have hev := afC_ev (st := st) h2 h
  have hM : matB p (sz st.length) (afM p st ims) = true := trL_mat h1 hC hev
  have hw : ∀ r ∈ afC p st ims, r.length = sz st.length := fun r hr => (hev r hr).1
  refine ⟨hM, ?_, fun j hj => ?_⟩
  · rw [apply_unit h1 hM (sz_le hd).1]
    show colL (trL (afC p st ims) (sz st.length)) 0 = _
    rw [col_tr hC hw (sz_le hd).1]
    obtain ⟨ds, e⟩ := afI_head (p := p) (st := st) (ims := ims) (c := oneL (sz st.length) 0) (cs := [])
    show (afI p st [oneL (sz st.length) 0] ims).getD 0 [] = _
    rw [e]; rfl
  · have hi : 2 ^ j < sz st.length := show 2 ^ j < 2 ^ st.length from Nat.pow_lt_pow_right (by decide) (by omega)
    rw [apply_unit h1 hM hi]
    show colL (trL (afC p st ims) (sz st.length)) (2 ^ j) = _
    rw [col_tr hC hw hi, afC_at hd h hj]
theorem af_law (hd : Dok p st) {ims : List (List Int)} (h : ∀ c ∈ ims, Ev p (sz st.length) c) (hl : ims.length = st.length) (ha : autK p st (afM p st ims) = true) :
    isoK p (diagF p st) (afM p st ims) = true ∧ ∀ x, Ev p (sz st.length) x → (applyL p (afM p st ims) x).getD 0 0 = x.getD 0 0 ∧ normL p st (applyL p (afM p st ims) x) = normL p st x ∧
      ∀ y, Ev p (sz st.length) y → applyL p (afM p st ims) (mulL p st x y) = mulL p st (applyL p (afM p st ims) x) (applyL p (afM p st ims) y) := by
  obtain ⟨hM, hone, _⟩ := af_facts hd h hl
  have hb := fun i hi k hk => aut_basis (i := i) (k := k) ha hi hk
  have hdt : detL p (afM p st ims) ≠ 0 := by
    have e := ha
    unfold autK at e
    rw [Bool.and_eq_true] at e
    simpa using e.1
  have hinj : ∀ v, Ev p (sz st.length) v → applyL p (afM p st ims) v = zeroL (sz st.length) → v = zeroL (sz st.length) := fun v hv e => det_inj hd.hp hM hdt hv e
  have hkp := fun x hx => aut_keep (x := x) hd hM hb hone hinj hx
  exact ⟨keep_iso hd hM fun x hx => (hkp x hx).2, fun x hx => ⟨(hkp x hx).1, (hkp x hx).2, fun y hy => aut_mul hd hM hb hx hy⟩⟩
end
end Go.Proofs.Ytgkceadllcjeoaa
