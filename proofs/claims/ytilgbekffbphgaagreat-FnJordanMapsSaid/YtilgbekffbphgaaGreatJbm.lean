/- Texts joined for a claim: TgA, TgB, AuQ, JmA. -/
import Derived.Test.YtilgbekffbphgaaGreatTrE
import Derived.Test.YtilgbekffbphgaaGreatJah
import Derived.Test.YtilgbekffbphgaaGreatJak
import Derived.Test.YtilgbekffbphgaaGreatJbh
namespace Go.Proofs.YtilgbekffbphgaaGreat
open Go.RowKit
/-! ### Sums over places -/
section
variable {w w' : World} {B g n : Nat}
end
end Go.Proofs.YtilgbekffbphgaaGreat
namespace Go.Proofs.YtilgbekffbphgaaGreat
theorem IsP.fld {p : Int} (hp : IsP p) {Q : Prop} (h : ∀ (n : Nat) [NeZero n], p = (n : Int) -> (∀ a b : Fin n, a * b = 0 -> a = 0 \/ b = 0) -> (∀ a b : Fin n, a + a = b + b -> a = b) -> Q) : Q := by
 rcases hp with rfl | rfl | rfl | rfl | rfl
 ·exact h 3 rfl (by decide) (by decide)
 ·exact h 5 rfl (by decide) (by decide)
 ·exact h 7 rfl (by decide) (by decide)
 ·exact h 11 rfl (by decide) (by decide)
 ·exact h 13 rfl (by decide) (by decide)
section
variable {p : Int} {st : List Int} {M : List (List Int)} {m : Nat}
theorem quad_eq (hd : Dok p st) {x : List Int} (hx : Ev p (sz st.length) x) : mulL p st x x = plusL p (scaleL p x (2 * x.getD 0 0)) (oneL (sz st.length) 0) (-(normL p st x)) := by
 have h2 : 2 <= p := by have := hd.hp.lo; omega
 have es := Ev.scale (k := 2 * x.getD 0 0) (show 1 <= p by omega) hx
 have eo : Ev p (sz st.length) (oneL (sz st.length) 0) := Ev.one h2
 have h0 : 0 < sz st.length := (sz_le hd).1
 refine hd.hp.nat fun n _ hn => toO_inj (n := n) hn (sz_le hd).2 (mulL_ev (by omega) hx hx) (es.plus (by omega) eo) ?_
 have hN : toF n (normL p st x) = onm (gam n st 0) (gam n st 1) (gam n st 2) (toO n x) := by
  have e := congrArg Oc.a0 (toO_mul (n := n) hn hd.hl hx.1 (hx.conj (show 1 <= p by omega)).1)
  rw [toO_conj hn] at e
  show toF n ((mulL p st x (conjL p x)).getD 0 0) = _
  refine Eq.trans e ?_
  unfold omul ocj onm
  grind
 rw [toO_mul hn hd.hl hx.1 hx.1, toO_plus hn (eo.1.trans es.1.symm), toO_scale hn, toO_unit, toF_neg, hN, toF_mul, toF_two]
 have ha : toF n (x.getD 0 0) = (toO n x).a0 := rfl
 rw [ha]
 simp only [h0, and_true, if_true, if_neg (show ¬ (1 : Nat) = 0 by decide), if_neg (show ¬ (2 : Nat) = 0 by decide), if_neg (show ¬ (3 : Nat) = 0 by decide), if_neg (show ¬ (4 : Nat) = 0 by decide), if_neg (show ¬ (5 : Nat) = 0 by decide), if_neg (show ¬ (6 : Nat) = 0 by decide), if_neg (show ¬ (7 : Nat) = 0 by decide)]
 generalize toO n x = X
 unfold omul oad osc onm
 apply Oc.ext <;> (simp only []; grind)
theorem aut_keep (hd : Dok p st) (hM : matB p (sz st.length) M = true)
  (h : ∀ i, i < sz st.length -> ∀ k, k < sz st.length -> applyL p M (mulL p st (oneL (sz st.length) i) (oneL (sz st.length) k)) = mulL p st (colL M i) (colL M k))
  (hone : applyL p M (oneL (sz st.length) 0) = oneL (sz st.length) 0) (hinj : ∀ v, Ev p (sz st.length) v -> applyL p M v = zeroL (sz st.length) -> v = zeroL (sz st.length))
  {x : List Int} (hx : Ev p (sz st.length) x) : (applyL p M x).getD 0 0 = x.getD 0 0 /\ normL p st (applyL p M x) = normL p st x := by
 have h1 : 1 <= p := by have := hd.hp.lo; omega
 have h2 : 2 <= p := by have := hd.hp.lo; omega
 have hu := applyL_ev h1 hM x
 have eo : Ev p (sz st.length) (oneL (sz st.length) 0) := Ev.one h2
 have es := Ev.scale (k := 2 * x.getD 0 0) h1 hx
 have q1 := congrArg (applyL p M) (quad_eq hd hx)
 rw [aut_mul hd hM h hx hx, apply_plus hd.hp (eo.1.trans es.1.symm), hone, scale_plus h1 hx, apply_plus hd.hp (hx.1.trans (zeroL_ev h1).1.symm), apply_zero h1 hM, <- scale_plus h1 hu] at q1
 have q2 := quad_eq hd hu
 rw [q1] at q2
 generalize hU : applyL p M x = u at *
 by_cases hall : ∀ j, 1 <= j -> u.getD j 0 = 0
 ·have eu : u = plusL p (zeroL (sz st.length)) (oneL (sz st.length) 0) (u.getD 0 0) := by
   refine hu.ext ((zeroL_ev h1).plus h1 eo) fun j => ?_
   rw [pat (zeroL_ev h1) eo, zero_at, one_at, Int.zero_add]
   by_cases hj : j = 0
   ·subst hj; rw [if_pos ⟨rfl, (sz_le hd).1⟩, Int.mul_one, hu.md h1]
   ·rw [if_neg fun e => hj e.1, Int.mul_zero, Int.zero_emod, hall j (by omega)]
  have ev := hx.plus (k := -(u.getD 0 0)) h1 eo
  have hz : applyL p M (plusL p x (oneL (sz st.length) 0) (-(u.getD 0 0))) = zeroL (sz st.length) := by
   rw [apply_plus hd.hp (eo.1.trans hx.1.symm), hone, hU]
   refine (hu.plus h1 eo).ext (zeroL_ev h1) fun j => ?_
   rw [pat hu eo, zero_at, one_at]
   by_cases hj : j = 0
   ·subst hj; rw [if_pos ⟨rfl, (sz_le hd).1⟩, Int.mul_one, show u.getD 0 0 + -(u.getD 0 0) = 0 by omega, Int.zero_emod]
   ·rw [if_neg fun e => hj e.1, Int.mul_zero, Int.add_zero, hall j (by omega), Int.zero_emod]
  have hxz := hinj _ ev hz
  have hxu : x = u := by
   refine hx.ext hu fun j => ?_
   have e := congrArg (fun l => l.getD j 0) hxz
   simp only [pat hx eo, zero_at, one_at] at e
   by_cases hj : j = 0
   ·subst hj
    rw [if_pos ⟨rfl, (sz_le hd).1⟩, Int.mul_one] at e
    have b1 := hx.at h1 0; have b2 := hu.at h1 0
    refine hd.hp.nat fun n _ hn => ?_
    have e2 : toF n (x.getD 0 0) = toF n (u.getD 0 0) := by
     have e3 : toF n (x.getD 0 0 + -(u.getD 0 0)) = 0 := by rw [<- toF_mod, <- hn, e, toF_zero]
     rw [toF_add, toF_neg] at e3
     grind
    rw [toF_eq, <- hn, hx.md h1, hu.md h1] at e2
    exact e2
   ·rw [if_neg fun e => hj e.1, Int.mul_zero, Int.add_zero, hx.md h1] at e
    rw [e, hall j (by omega)]
  rw [hxu]; exact ⟨rfl, rfl⟩
 ·obtain ⟨j, hj⟩ := Classical.not_forall.1 hall
  obtain ⟨hj1, hj2⟩ := Classical.not_imp.1 hj
  have eu := Ev.scale (k := 2 * x.getD 0 0) h1 hu
  have eu2 := Ev.scale (k := 2 * u.getD 0 0) h1 hu
  have c0 := congrArg (fun l => l.getD 0 0) q2
  have cj := congrArg (fun l => l.getD j 0) q2
  simp only [pat eu eo, pat eu2 eo, scale_at, one_at] at c0 cj
  rw [if_pos ⟨trivial, (sz_le hd).1⟩, Int.mul_one, Int.mul_one] at c0
  rw [if_neg (fun e => by omega), Int.mul_zero, Int.mul_zero, Int.add_zero, Int.add_zero] at cj
  have b0 := hx.at h1 0; have b1 := hu.at h1 0; have bj := hu.at h1 j
  have n0 := normL_fp (p := p) (st := st) (x := x) h1; have n1 := normL_fp (p := p) (st := st) (x := u) h1
  have key : u.getD 0 0 = x.getD 0 0 := by
   refine hd.hp.fld fun n _ hn hf htw => ?_
   subst hn
   rw [Int.emod_emod, Int.emod_emod, <- toF_eq, toF_mul, toF_mul, toF_mul, toF_mul, toF_two] at cj
   have hjn : toF n (u.getD j 0) ≠ 0 := fun e => hj2 (by
    rw [<- toF_zero, toF_eq, hu.md h1, Int.zero_emod] at e
    exact e)
   have e0 : toF n (u.getD j 0) * (2 * toF n (x.getD 0 0) - 2 * toF n (u.getD 0 0)) = 0 := by grind
   have e1 := (hf _ _ e0).resolve_left hjn
   have e2 : toF n (u.getD 0 0) = toF n (x.getD 0 0) := htw _ _ (by grind)
   rw [toF_eq, hx.md h1, hu.md h1] at e2
   exact e2
  refine ⟨key, ?_⟩
  rw [key] at c0
  refine hd.hp.nat fun n _ hn => ?_
  subst hn
  rw [<- toF_eq, toF_add, toF_add, toF_neg, toF_neg] at c0
  have e2 : toF n (normL (n : Int) st u) = toF n (normL (n : Int) st x) := by grind
  rw [toF_eq, Int.emod_eq_of_lt n0.1 n0.2, Int.emod_eq_of_lt n1.1 n1.2] at e2
  exact e2
/-! ### The matrix that images lead to -/
theorem col_tr {L : List (List Int)} {n i : Nat} (hl : L.length = n) (hw : ∀ r ∈ L, r.length = n) (hi : i < n) : colL (trL L n) i = L.getD i [] := by
 have hr : (L.getD i []).length = n := by
  rw [List.getD_eq_getElem?_getD, List.getElem?_eq_getElem (by omega)]
  exact hw _ (List.getElem_mem _)
 refine ext_at (by unfold colL; rw [List.length_map, trL_len, hr]) fun j hj => ?_
 have hj : j < n := by unfold colL at hj; rw [List.length_map, trL_len] at hj; exact hj
 rw [colL_at (by rw [trL_len]; exact hj)]
 unfold trL colL
 simp only [List.getElem_map, List.getElem_range, List.getD_eq_getElem?_getD, List.getElem?_map]
 rw [List.getElem?_eq_getElem (show i < L.length by omega)]
 rfl
theorem afI_pre : ∀ {ims cols : List (List Int)} {i : Nat}, i < cols.length -> (afI p st cols ims).getD i [] = cols.getD i []
 | [], cols, i, _ => rfl
 | im :: r, cols, i, h => by
  show (afI p st (cols ++ cols.map fun x => mulL p st x im) r).getD i [] = _
  rw [afI_pre (by rw [List.length_append]; omega), List.getD_eq_getElem?_getD, List.getElem?_append_left h, List.getD_eq_getElem?_getD]
theorem afC_at (hd : Dok p st) {ims : List (List Int)} (h : ∀ c ∈ ims, Ev p (sz st.length) c) {j : Nat} (hj : j < ims.length) : (afC p st ims).getD (2 ^ j) [] = ims[j] := by
 have key : ∀ (ims : List (List Int)) (j : Nat) (hj : j < ims.length), (∀ c ∈ ims, Ev p (sz st.length) c) -> ∀ (ds : List (List Int)) (k : Nat), (oneL (sz st.length) 0 :: ds).length = 2 ^ k -> (afI p st (oneL (sz st.length) 0 :: ds) ims).getD (2 ^ (k + j)) [] = ims[j] := by
  intro ims
  induction ims with
  | nil => intro j hj; simp at hj
  | cons im r ih =>
   intro j hj he ds k hk
   show (afI p st ((oneL (sz st.length) 0 :: ds) ++ (oneL (sz st.length) 0 :: ds).map fun x => mulL p st x im) r).getD (2 ^ (k + j)) [] = _
   have hlen : ((oneL (sz st.length) 0 :: ds) ++ (oneL (sz st.length) 0 :: ds).map fun x => mulL p st x im).length = 2 ^ (k + 1) := by
    rw [List.length_append, List.length_map, hk, Nat.pow_succ]; omega
   cases j with
   | zero =>
    rw [afI_pre (by rw [hlen, Nat.add_zero, Nat.pow_succ]; have := Nat.pow_pos (n := k) (show 0 < 2 by decide); omega), Nat.add_zero, List.getD_eq_getElem?_getD, List.getElem?_append_right (by omega), hk, Nat.sub_self]
    show mulL p st (oneL (sz st.length) 0) im = im
    exact one_mul hd (he im (List.mem_cons_self ..))
   | succ j =>
    have := ih j (by simpa using hj) (fun c hc => he c (List.mem_cons_of_mem _ hc)) (ds ++ (oneL (sz st.length) 0 :: ds).map fun x => mulL p st x im) (k + 1) (by rw [<- List.cons_append]; exact hlen)
    rw [<- List.cons_append] at this
    rw [show k + (j + 1) = k + 1 + j by omega]
    exact this
 have := key ims j hj h [] 0 (by simp)
 rw [Nat.zero_add] at this
 exact this
theorem af_facts (hd : Dok p st) {ims : List (List Int)} (h : ∀ c ∈ ims, Ev p (sz st.length) c) (hl : ims.length = st.length) :
  matB p (sz st.length) (afM p st ims) = true /\ applyL p (afM p st ims) (oneL (sz st.length) 0) = oneL (sz st.length) 0 /\ ∀ j (hj : j < ims.length), applyL p (afM p st ims) (oneL (sz st.length) (2 ^ j)) = ims[j] := by
 have h1 : 1 <= p := by have := hd.hp.lo; omega
 have h2 : 2 <= p := by have := hd.hp.lo; omega
 have hC : (afC p st ims).length = sz st.length := by rw [afC_len, hl]; rfl
 have hev := afC_ev (st := st) h2 h
 have hM : matB p (sz st.length) (afM p st ims) = true := trL_mat h1 hC hev
 have hw : ∀ r ∈ afC p st ims, r.length = sz st.length := fun r hr => (hev r hr).1
 refine ⟨hM, ?_, fun j hj => ?_⟩
 ·rw [apply_unit h1 hM (sz_le hd).1]
  show colL (trL (afC p st ims) (sz st.length)) 0 = _
  rw [col_tr hC hw (sz_le hd).1]
  obtain ⟨ds, e⟩ := afI_head (p := p) (st := st) (ims := ims) (c := oneL (sz st.length) 0) (cs := [])
  show (afI p st [oneL (sz st.length) 0] ims).getD 0 [] = _
  rw [e]; rfl
 ·have hi : 2 ^ j < sz st.length := show 2 ^ j < 2 ^ st.length from Nat.pow_lt_pow_right (by decide) (by omega)
  rw [apply_unit h1 hM hi]
  show colL (trL (afC p st ims) (sz st.length)) (2 ^ j) = _
  rw [col_tr hC hw hi, afC_at hd h hj]
end
section
variable {p : Int} {st : List Int} {M : List (List Int)} {m : Nat}
theorem norm_O (hd : Dok p st) {x : List Int} (hx : Ev p (sz st.length) x) {n : Nat} [NeZero n] (hn : p = n) : toF n (normL p st x) = onm (gam n st 0) (gam n st 1) (gam n st 2) (toO n x) := by
 have h2 : 2 <= p := by have := hd.hp.lo; omega
 have e := congrArg Oc.a0 (toO_mul (n := n) hn hd.hl hx.1 (hx.conj (show 1 <= p by omega)).1)
 rw [toO_conj hn] at e
 show toF n ((mulL p st x (conjL p x)).getD 0 0) = _
 refine Eq.trans e ?_
 unfold omul ocj onm
 grind
theorem norm_mul (hd : Dok p st) {x y : List Int} (hx : Ev p (sz st.length) x) (hy : Ev p (sz st.length) y) (h0 : normL p st x = 0) : normL p st (mulL p st x y) = 0 := by
 have h1 : 1 <= p := by have := hd.hp.lo; omega
 refine hd.hp.nat fun n _ hn => ?_
 refine toF_inj hn (normL_fp h1) ⟨Int.le_refl 0, by omega⟩ ?_
 have e := norm_O hd hx hn
 rw [h0, toF_zero] at e
 rw [norm_O hd (mulL_ev h1 hx hy) hn, toO_mul hn hd.hl hx.1 hy.1, toF_zero]
 have e2 : onm (gam n st 0) (gam n st 1) (gam n st 2) (omul (gam n st 0) (gam n st 1) (gam n st 2) (toO n x) (toO n y)) = onm (gam n st 0) (gam n st 1) (gam n st 2) (toO n x) * onm (gam n st 0) (gam n st 1) (gam n st 2) (toO n y) := by
  unfold omul onm
  grind
 rw [e2, <- e]
 grind
theorem norm_up (hd : Dok p st) (h8 : 1 < sz st.length) (h1 : normL p st (oneL (sz st.length) 1) = 0) (h2 : normL p st (plusL p (oneL (sz st.length) 1) (oneL (sz st.length) 0) 1) = 0) : False := by
 have hp2 : 2 <= p := by have := hd.hp.lo; omega
 have e0 : Ev p (sz st.length) (oneL (sz st.length) 0) := Ev.one hp2
 have e1 : Ev p (sz st.length) (oneL (sz st.length) 1) := Ev.one hp2
 have hp13 := hd.hp.hi
 have key : (1 : Int) = 0 := by
  refine hd.hp.nat fun n _ hn => ?_
  refine toF_inj hn ⟨by decide, by omega⟩ ⟨Int.le_refl 0, by omega⟩ ?_
  have a1 := norm_O hd e1 hn
  have a2 := norm_O hd (e1.plus (k := 1) (by omega) e0) hn
  rw [h1, toF_zero, toO_unit] at a1
  rw [h2, toF_zero, toO_plus hn (e0.1.trans e1.1.symm), toO_unit, toO_unit, toF_one] at a2
  rw [toF_one, toF_zero]
  simp only [h8, (sz_le hd).1, and_true, if_true, if_neg (show ¬ (0 : Nat) = 1 by decide), if_neg (show ¬ (1 : Nat) = 0 by decide), if_neg (show ¬ (2 : Nat) = 1 by decide), if_neg (show ¬ (3 : Nat) = 1 by decide), if_neg (show ¬ (4 : Nat) = 1 by decide), if_neg (show ¬ (5 : Nat) = 1 by decide), if_neg (show ¬ (6 : Nat) = 1 by decide), if_neg (show ¬ (7 : Nat) = 1 by decide), if_neg (show ¬ (2 : Nat) = 0 by decide), if_neg (show ¬ (3 : Nat) = 0 by decide), if_neg (show ¬ (4 : Nat) = 0 by decide), if_neg (show ¬ (5 : Nat) = 0 by decide), if_neg (show ¬ (6 : Nat) = 0 by decide), if_neg (show ¬ (7 : Nat) = 0 by decide)] at a1 a2
  unfold onm at a1 a2
  unfold oad osc at a2
  simp only [] at a1 a2
  grind
 exact absurd key (by decide)
theorem aut_one (hd : Dok p st) (hM : matB p (sz st.length) M = true)
  (h : ∀ i, i < sz st.length -> ∀ k, k < sz st.length -> applyL p M (mulL p st (oneL (sz st.length) i) (oneL (sz st.length) k)) = mulL p st (colL M i) (colL M k))
  (hinj : ∀ v, Ev p (sz st.length) v -> applyL p M v = zeroL (sz st.length) -> v = zeroL (sz st.length)) : applyL p M (oneL (sz st.length) 0) = oneL (sz st.length) 0 := by
 have h1 : 1 <= p := by have := hd.hp.lo; omega
 have h2 : 2 <= p := by have := hd.hp.lo; omega
 have h0 : 0 < sz st.length := (sz_le hd).1
 have hu := applyL_ev h1 hM (oneL (sz st.length) 0)
 have eo : Ev p (sz st.length) (oneL (sz st.length) 0) := Ev.one h2
 have hmul := fun x (hx : Ev p (sz st.length) x) => aut_mul hd hM h eo hx
 have hsq := fun x (hx : Ev p (sz st.length) x) => aut_mul hd hM h hx hx
 have huu := hmul _ eo
 rw [one_mul hd eo] at huu
 have hact := fun x (hx : Ev p (sz st.length) x) => (congrArg (applyL p M) (one_mul hd hx)).symm.trans (hmul x hx)
 have hone0 : oneL (sz st.length) 0 ≠ zeroL (sz st.length) := fun e => by
  have e := congrArg (fun l => l.getD 0 0) e
  simp only [one_at, zero_at] at e
  rw [if_pos ⟨trivial, h0⟩] at e
  exact absurd e (by decide)
 have hne : applyL p M (oneL (sz st.length) 0) ≠ zeroL (sz st.length) := fun e => hone0 (hinj _ eo e)
 have hphi : ∀ x, Ev p (sz st.length) x -> ∀ c, applyL p M (plusL p (scaleL p x c) (oneL (sz st.length) 0) (-(normL p st x))) = plusL p (scaleL p (applyL p M x) c) (applyL p M (oneL (sz st.length) 0)) (-(normL p st x)) := fun x hx c => by
  rw [apply_plus hd.hp (eo.1.trans (Ev.scale h1 hx).1.symm), scale_plus h1 hx, apply_plus hd.hp (hx.1.trans (zeroL_ev h1).1.symm), apply_zero h1 hM, <- scale_plus h1 (applyL_ev h1 hM x)]
 have q := quad_eq hd hu
 rw [<- huu] at q
 generalize hU : applyL p M (oneL (sz st.length) 0) = u at *
 have bu := hu.at h1 0
 have es := Ev.scale (k := 2 * u.getD 0 0) h1 hu
 by_cases hall : ∀ j, 1 <= j -> u.getD j 0 = 0
 ·have c0 := congrArg (fun l => l.getD 0 0) q
  simp only [pat es eo, scale_at, one_at] at c0
  rw [if_pos ⟨trivial, h0⟩, Int.mul_one] at c0
  have key : u.getD 0 0 = 0 \/ u.getD 0 0 = 1 := by
   refine hd.hp.fld fun n _ hn hf htw => ?_
   have c02 := congrArg (toF n) c0
   have hN := norm_O hd hu hn
   have hO : toO n u = ⟨toF n (u.getD 0 0), 0, 0, 0, 0, 0, 0, 0⟩ := by
    unfold toO
    simp only [hall 1 (by decide), hall 2 (by decide), hall 3 (by decide), hall 4 (by decide), hall 5 (by decide), hall 6 (by decide), hall 7 (by decide), toF_zero]
   rw [hO] at hN
   unfold onm at hN
   subst hn
   simp only [toF_mod, toF_add, toF_mul, toF_neg, toF_two, hN] at c02
   have e0 : toF n (u.getD 0 0) * (toF n (u.getD 0 0) - 1) = 0 := by grind
   rcases hf _ _ e0 with e | e
   ·exact .inl (toF_inj rfl bu ⟨Int.le_refl 0, by omega⟩ (e.trans (toF_zero n).symm))
   ·exact .inr (toF_inj rfl bu ⟨by decide, by omega⟩ (by rw [toF_one]; grind))
  rcases key with e | e
  ·refine absurd (hu.ext (zeroL_ev h1) fun j => ?_) hne
   rw [zero_at]
   by_cases hj : j = 0
   ·rw [hj, e]
   ·exact hall j (by omega)
  ·refine hu.ext eo fun j => ?_
   rw [one_at]
   by_cases hj : j = 0
   ·subst hj; rw [e, if_pos ⟨rfl, h0⟩]
   ·rw [if_neg (fun x => hj x.1)]; exact hall j (by omega)
 ·obtain ⟨j, hj⟩ := Classical.not_forall.1 hall
  obtain ⟨hj1, hj2⟩ := Classical.not_imp.1 hj
  have hjm : j < sz st.length := by
   refine Nat.lt_of_not_le fun hge => hj2 ?_
   rw [List.getD_eq_getElem?_getD, List.getElem?_eq_none (by rw [hu.1]; exact hge)]; rfl
  have c0 := congrArg (fun l => l.getD 0 0) q
  have cj := congrArg (fun l => l.getD j 0) q
  simp only [pat es eo, scale_at, one_at] at c0 cj
  rw [if_pos ⟨trivial, h0⟩, Int.mul_one] at c0
  rw [if_neg (fun e => by omega), Int.mul_zero, Int.add_zero] at cj
  have n1 := normL_fp (p := p) (st := st) (x := u) h1
  have bj := hu.at h1 j
  have key : normL p st u = 0 /\ (2 * u.getD 0 0) % p = 1 % p := by
   refine hd.hp.fld fun n _ hn hf htw => ?_
   subst hn
   rw [Int.emod_emod] at cj
   have cj2 := congrArg (toF n) cj
   have c02 := congrArg (toF n) c0
   rw [toF_mod, toF_mul, toF_mul, toF_two] at cj2
   rw [toF_mod, toF_add, toF_mod, toF_mul, toF_mul, toF_neg, toF_two] at c02
   have hjn : toF n (u.getD j 0) ≠ 0 := fun e => hj2 (toF_inj rfl bj ⟨Int.le_refl 0, by omega⟩ (e.trans (toF_zero n).symm))
   have e0 : toF n (u.getD j 0) * (2 * toF n (u.getD 0 0) - 1) = 0 := by grind
   have e1 := (hf _ _ e0).resolve_left hjn
   refine ⟨toF_inj rfl n1 ⟨Int.le_refl 0, by omega⟩ ?_, ?_⟩
   ·rw [toF_zero]; grind
   ·have e2 : toF n (2 * u.getD 0 0) = toF n 1 := by rw [toF_mul, toF_two, toF_one]; grind
    rw [toF_eq] at e2; exact e2
  have hz : ∀ x, Ev p (sz st.length) x -> x.getD 1 0 = 1 -> normL p st x = 0 := fun x hx hx1 => by
   have hy := applyL_ev h1 hM x
   have ey : applyL p M x = mulL p st u (applyL p M x) := hact x hx
   have ny : normL p st (applyL p M x) = 0 := by rw [ey]; exact norm_mul hd hu hy key.1
   have s1 := hsq x hx
   rw [quad_eq hd hx, hphi x hx, quad_eq hd hy, ny] at s1
   have hp2 := hphi x hx (2 * x.getD 0 0 - 2 * (applyL p M x).getD 0 0)
   generalize applyL p M x = y at *
   have nx := normL_fp (p := p) (st := st) (x := x) h1
   generalize normL p st x = N at *
   have ez : plusL p (scaleL p y (2 * x.getD 0 0 - 2 * y.getD 0 0)) u (-N) = zeroL (sz st.length) := by
    refine ((Ev.scale h1 hy).plus h1 hu).ext (zeroL_ev h1) fun i => ?_
    have si := congrArg (fun l => l.getD i 0) s1
    simp only [pat (Ev.scale h1 hy) hu, pat (Ev.scale h1 hy) eo, scale_at] at si
    rw [pat (Ev.scale h1 hy) hu, scale_at, zero_at]
    refine hd.hp.nat fun n _ hn => ?_
    subst hn
    have s2 := congrArg (toF n) si
    simp only [toF_mod, toF_add, toF_mul, toF_neg, toF_zero] at s2
    refine toF_inj rfl ⟨Int.emod_nonneg _ (by omega), Int.emod_lt_of_pos _ (by omega)⟩ ⟨Int.le_refl 0, by omega⟩ ?_
    simp only [toF_mod, toF_add, toF_mul, toF_neg, toF_zero, toF_sub]
    grind
   rw [ez] at hp2
   have hv := hinj _ ((Ev.scale h1 hx).plus h1 eo) hp2
   have v1 := congrArg (fun l => l.getD 1 0) hv
   have v0 := congrArg (fun l => l.getD 0 0) hv
   simp only [pat (Ev.scale h1 hx) eo, scale_at, one_at, zero_at] at v1 v0
   rw [if_pos ⟨trivial, h0⟩, Int.mul_one] at v0
   rw [if_neg (fun e => by omega), hx1, Int.mul_zero, Int.add_zero, Int.one_mul] at v1
   refine hd.hp.nat fun n _ hn => ?_
   subst hn
   have w1 := congrArg (toF n) v1
   have w0 := congrArg (toF n) v0
   simp only [toF_mod, toF_add, toF_mul, toF_neg, toF_zero] at w0 w1
   refine toF_inj rfl nx ⟨Int.le_refl 0, by omega⟩ ?_
   rw [toF_zero]
   grind
  have e1 : Ev p (sz st.length) (oneL (sz st.length) 1) := Ev.one h2
  have h8 : 1 < sz st.length := by omega
  refine (norm_up hd h8 (hz _ e1 ?_) (hz _ (e1.plus h1 eo) ?_)).elim
  ·rw [one_at, if_pos ⟨rfl, h8⟩]
  ·rw [pat e1 eo, one_at, one_at, if_pos ⟨rfl, h8⟩, if_neg (fun e => by omega), Int.mul_zero, Int.add_zero]
   exact Int.emod_eq_of_lt (by decide) (by omega)
end
end Go.Proofs.YtilgbekffbphgaaGreat
