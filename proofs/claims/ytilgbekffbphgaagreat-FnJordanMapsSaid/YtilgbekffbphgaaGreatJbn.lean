/- Texts joined for a claim: JmB, OctM, OctK, OctL, OctN, OctP, OctQ, OctR, OctS, OctT, OctU. -/
import Derived.Test.YtilgbekffbphgaaGreatJbm
import Derived.Test.YtilgbekffbphgaaGreatJbd
import Derived.Test.YtilgbekffbphgaaGreatJaz
import Derived.Test.YtilgbekffbphgaaGreatJbh
namespace Go.Proofs.YtilgbekffbphgaaGreat
section
variable {p : Int} {st : List Int} {M : List (List Int)} {X Y : Her}
structure AutP (p : Int) (st : List Int) (M : List (List Int)) : Prop where
 mat : matB p (sz st.length) M = true
 ev : ∀ x, Ev p (sz st.length) x -> Ev p (sz st.length) (applyL p M x)
 mul : ∀ x y, Ev p (sz st.length) x -> Ev p (sz st.length) y -> applyL p M (mulL p st x y) = mulL p st (applyL p M x) (applyL p M y)
 plus : ∀ x y c, Ev p (sz st.length) x -> Ev p (sz st.length) y -> applyL p M (plusL p x y c) = plusL p (applyL p M x) (applyL p M y) c
 scale : ∀ x c, Ev p (sz st.length) x -> applyL p M (scaleL p x c) = scaleL p (applyL p M x) c
 one : applyL p M (oneL (sz st.length) 0) = oneL (sz st.length) 0
 first : ∀ x, Ev p (sz st.length) x -> (applyL p M x).getD 0 0 = x.getD 0 0
 norm : ∀ x, Ev p (sz st.length) x -> normL p st (applyL p M x) = normL p st x
theorem conj_form (hp : 2 <= p) {n : Nat} (hn : 0 < n) {x : List Int} (hx : Ev p n x) : conjL p x = plusL p (scaleL p (oneL n 0) (2 * x.getD 0 0)) x (-1) := by
 have eo : Ev p n (oneL n 0) := Ev.one hp
 refine (hx.conj (by omega)).ext ((Ev.scale (by omega) eo).plus (by omega) hx) fun j => ?_
 rw [pat (Ev.scale (by omega) eo) hx, scale_at, one_at]
 obtain ⟨y, ys, rfl⟩ : ∃ y ys, x = y :: ys := by
  cases x with
  | nil => exact absurd hx.1 (by simp; omega)
  | cons y ys => exact ⟨y, ys, rfl⟩
 have hy := hx.at (by omega) 0
 simp only [List.getD_cons_zero] at hy
 cases j with
 | zero =>
  rw [if_pos ⟨rfl, hn⟩]
  simp only [List.getD_cons_zero]
  rw [Int.one_mul, Int.add_emod, Int.emod_emod, <- Int.add_emod, show 2 * y + -1 * y = y by omega, Int.emod_eq_of_lt hy.1 hy.2]
  rfl
 | succ j =>
  rw [if_neg (fun e => by omega), Int.zero_mul, Int.zero_emod, Int.zero_add]
  simp only [List.getD_cons_succ]
  show (scaleL p ys (-1)).getD j 0 = _
  rw [scale_at]
  congr 1
  omega
theorem AutP.conj (h : AutP p st M) (hp : 2 <= p) {x : List Int} (hx : Ev p (sz st.length) x) : applyL p M (conjL p x) = conjL p (applyL p M x) := by
 have hn : 0 < sz st.length := Nat.pow_pos (by decide)
 have eo : Ev p (sz st.length) (oneL (sz st.length) 0) := Ev.one hp
 rw [conj_form hp hn hx, conj_form hp hn (h.ev x hx), h.plus _ _ _ (Ev.scale (by omega) eo) hx, h.scale _ _ eo, h.one, h.first x hx]
theorem aut_p (hd : Dok p st) (hM : matB p (sz st.length) M = true) (ha : autB p st M = true) : AutP p st M := by
 have h1 : 1 <= p := by have := hd.hp.lo; omega
 rw [<- aut_eq hd hM] at ha
 have hdt : detL p M ≠ 0 := by
  have e := ha
  unfold autK at e
  simp only [Bool.and_eq_true, bne_iff_ne] at e
  exact e.1
 have hb := fun i hi k hk => aut_basis (i := i) (k := k) ha hi hk
 have hinj : ∀ v, Ev p (sz st.length) v -> applyL p M v = zeroL (sz st.length) -> v = zeroL (sz st.length) := fun v hv e => det_inj hd.hp hM hdt hv e
 have hone := aut_one hd hM hb hinj
 have hk := fun x hx => aut_keep (x := x) hd hM hb hone hinj hx
 have hpl : ∀ x y c, Ev p (sz st.length) x -> Ev p (sz st.length) y -> applyL p M (plusL p x y c) = plusL p (applyL p M x) (applyL p M y) c := fun x y c hx hy => apply_plus hd.hp (hy.1.trans hx.1.symm)
 exact ⟨hM, fun x _ => applyL_ev h1 hM x, fun x y hx hy => aut_mul hd hM hb hx hy, hpl,
  fun x c hx => by rw [scale_plus h1 hx, hpl _ _ _ (zeroL_ev h1) hx, apply_zero h1 hM, <- scale_plus h1 (applyL_ev h1 hM x)],
  hone, fun x hx => (hk x hx).1, fun x hx => (hk x hx).2⟩
theorem map_ent (h : AutP p st M) (hp : 2 <= p) (hX : isH p (sz st.length) X = true) {i j : Nat} (hi : i < 3) (hj : j < 3) :
  entryH p (sz st.length) (mapH p M X) i j = applyL p M (entryH p (sz st.length) X i j) := by
 obtain ⟨a, b, c, u, v, t, rfl, _, _, _, _, _, _, eu, ev, et⟩ := isH_op hX
 have eo : Ev p (sz st.length) (oneL (sz st.length) 0) := Ev.one hp
 have hs : ∀ z, applyL p M (scaleL p (oneL (sz st.length) 0) z) = scaleL p (oneL (sz st.length) 0) z := fun z => by rw [h.scale _ _ eo, h.one]
 have hu := h.conj hp eu; have hv := h.conj hp ev; have ht := h.conj hp et
 rcases (show i = 0 \/ i = 1 \/ i = 2 by omega) with rfl | rfl | rfl <;> rcases (show j = 0 \/ j = 1 \/ j = 2 by omega) with rfl | rfl | rfl
 ·exact (hs _).symm
 ·rfl
 ·exact hv.symm
 ·exact ht.symm
 ·exact (hs _).symm
 ·rfl
 ·rfl
 ·exact hu.symm
 ·exact (hs _).symm
theorem map_eop (h : AutP p st M) (hp : 2 <= p) (hX : isH p (sz st.length) X = true) (hY : isH p (sz st.length) Y = true) {i j : Nat} (hi : i < 3) (hj : j < 3) :
  eopH p st (mapH p M X) (mapH p M Y) i j = applyL p M (eopH p st X Y i j) := by
 have h1 : 1 <= p := by omega
 have e0 := zeroL_ev (p := p) (m := sz st.length) h1
 have hz : applyL p M (zeroL (sz st.length)) = zeroL (sz st.length) := apply_zero h1 h.mat
 have x := fun k (hk : k < 3) => entryH_ev (p := p) (n := sz st.length) hp hX hi hk
 have y := fun k (hk : k < 3) => entryH_ev (p := p) (n := sz st.length) hp hY hk hj
 have m := fun k (hk : k < 3) => mulL_ev (p := p) (st := st) h1 (x k hk) (y k hk)
 have mm := fun k (hk : k < 3) => (h.mul _ _ (x k hk) (y k hk)).symm
 unfold eopH
 rw [map_ent h hp hX hi (show 0 < 3 by decide), map_ent h hp hX hi (show 1 < 3 by decide), map_ent h hp hX hi (show 2 < 3 by decide), map_ent h hp hY (show 0 < 3 by decide) hj, map_ent h hp hY (show 1 < 3 by decide) hj, map_ent h hp hY (show 2 < 3 by decide) hj,
  mm 0 (by decide), mm 1 (by decide), mm 2 (by decide)]
 change plusL p (plusL p (plusL p (zeroL (sz st.length)) _ 1) _ 1) _ 1 = applyL p M (plusL p (plusL p (plusL p (zeroL (sz st.length)) _ 1) _ 1) _ 1)
 have s1 := e0.plus (k := 1) h1 (m 0 (by decide))
 have s2 := s1.plus (k := 1) h1 (m 1 (by decide))
 rw [h.plus _ _ _ s2 (m 2 (by decide)), h.plus _ _ _ s1 (m 1 (by decide)), h.plus _ _ _ e0 (m 0 (by decide)), hz]
theorem map_half (h : AutP p st M) (hp : 2 <= p) (hX : isH p (sz st.length) X = true) (hY : isH p (sz st.length) Y = true) {i j : Nat} (hi : i < 3) (hj : j < 3) :
  halfH p st (mapH p M X) (mapH p M Y) i j = applyL p M (halfH p st X Y i j) := by
 have e := eopH_ev (p := p) (st := st) hp hX hY hi hj
 have f := eopH_ev (p := p) (st := st) hp hY hX hi hj
 unfold halfH
 rw [map_eop h hp hX hY hi hj, map_eop h hp hY hX hi hj, h.scale _ _ (e.plus (by omega) f), h.plus _ _ _ e f]
theorem map_jor (h : AutP p st M) (hp : 2 <= p) (hX : isH p (sz st.length) X = true) (hY : isH p (sz st.length) Y = true) :
  mapH p M (jordanH p st X Y) = jordanH p st (mapH p M X) (mapH p M Y) := by
 have e := fun i (hi : i < 3) j (hj : j < 3) => map_half (i := i) (j := j) h hp hX hY hi hj
 have f := fun i (hi : i < 3) j (hj : j < 3) => (congrArg (fun l => l.getD 0 0) (e i hi j hj)).trans (h.first _ (halfH_ev (p := p) (st := st) hp hX hY hi hj))
 unfold jordanH
 rw [f 0 (by decide) 0 (by decide), f 1 (by decide) 1 (by decide), f 2 (by decide) 2 (by decide), e 1 (by decide) 2 (by decide), e 2 (by decide) 0 (by decide), e 0 (by decide) 1 (by decide)]
 rfl
theorem map_trace : traceH p (mapH p M X) = traceH p X := rfl
theorem map_det (h : AutP p st M) (hp : 2 <= p) (hX : isH p (sz st.length) X = true) : detH p st (mapH p M X) = detH p st X := by
 obtain ⟨a, b, c, u, v, t, rfl, _, _, _, _, _, _, eu, ev, et⟩ := isH_op hX
 have nu := h.norm u eu; have nv := h.norm v ev; have nt := h.norm t et
 have m1 := mulL_ev (p := p) (st := st) (show 1 <= p by omega) eu ev
 have m2 := mulL_ev (p := p) (st := st) (show 1 <= p by omega) m1 et
 have hc : cycL p st (applyL p M u) (applyL p M v) (applyL p M t) = cycL p st u v t := by
  unfold cycL
  rw [<- h.mul _ _ eu ev, <- h.mul _ _ m1 et, h.first _ m2]
 show (a * b * c + cycL p st (applyL p M u) (applyL p M v) (applyL p M t) - a * normL p st (applyL p M u) - b * normL p st (applyL p M v) - c * normL p st (applyL p M t)) % p = _
 rw [nu, nv, nt, hc]
 rfl
theorem map_adj (h : AutP p st M) (hX : isH p (sz st.length) X = true) : traceH p (adjH p st (mapH p M X)) = traceH p (adjH p st X) := by
 obtain ⟨a, b, c, u, v, t, rfl, _, _, _, _, _, _, eu, ev, et⟩ := isH_op hX
 have nu := h.norm u eu; have nv := h.norm v ev; have nt := h.norm t et
 show ((b * c - normL p st (applyL p M u)) % p + (c * a - normL p st (applyL p M v)) % p + (a * b - normL p st (applyL p M t)) % p) % p = _
 rw [nu, nv, nt]
 rfl
end
section
variable {n : Nat} [NeZero n] (g h k : Fin n)
end
section
variable {n : Nat} [NeZero n] (g h k : Fin n)
def NC (X : H3 n) : Fin n := X.a * X.b * X.c + 2 * odt g h k X.u (omul g h k (ocj X.t) (ocj X.v)) - X.a * odt g h k X.u X.u - X.b * odt g h k X.v X.v - X.c * odt g h k X.t X.t
def rot (X : H3 n) : H3 n := ⟨X.b, X.c, X.a, X.v, X.t, X.u⟩
theorem cyc (x y z : Oc n) : odt g h k x (omul g h k (ocj y) (ocj z)) = odt g h k y (omul g h k (ocj z) (ocj x)) := by unfold odt omul ocj; grind
end
section
variable {n : Nat} [NeZero n] (g h k : Fin n)
end
section
variable {n : Nat} [NeZero n] (g h k : Fin n)
theorem NC_rot (X : H3 n) : NC g h k (rot X) = NC g h k X := by
 have e := cyc g h k X.u X.t X.v
 have e2 := cyc g h k X.v X.u X.t
 unfold NC rot
 dsimp only
 grind
end
section
variable {n : Nat} [NeZero n]
variable (g h k : Fin n)
end
section
variable {n : Nat} [NeZero n] (g h k : Fin n)
end
section
variable {n : Nat} [NeZero n] (g h k : Fin n)
end
section
variable {n : Nat} [NeZero n] (g h k : Fin n)
end
section
variable {n : Nat} [NeZero n] (g h k : Fin n)
def Fld (n : Nat) [NeZero n] : Prop := ∀ a b : Fin n, a * b = 0 -> a = 0 \/ b = 0
end
section
variable {n : Nat} [NeZero n]
theorem omul_re2 (g h k : Fin n) (x y : Oc n) : (omul g h k x y).a0 = odt g h k x (ocj y) := by
 have e := omul_re g h k x (ocj y)
 rw [ocj_ocj] at e; exact e
theorem toF_det {p : Int} {st : List Int} {X : Her} (hp : p = n) (hp1 : 2 <= p) (hst : st.length <= 3) (hX : isH p (sz st.length) X = true) :
  toF n (detH p st X) = NC (gam n st 0) (gam n st 1) (gam n st 2) (toH n X) := by
 obtain ⟨eu, ev, et⟩ := isH_rows hX
 have em := mulL_ev (p := p) (by omega) eu ev
 have md : ∀ z : Int, toF n (z % p) = toF n z := fun z => by rw [hp]; exact toF_mod n z
 unfold detH cycL NC
 rw [md, toF_sub, toF_sub, toF_sub, toF_add, md]
 simp only [toF_mul, toF_norm hp hp1 hst eu, toF_norm hp hp1 hst ev, toF_norm hp hp1 hst et, onm_odt, toF_two]
 rw [getD_toO, toO_mul hp hst em.1 et.1, toO_mul hp hst eu.1 ev.1, omul_re2, odt_movr]
 rfl
end
theorem fld3 : Fld 3 := by unfold Fld; decide
theorem fld5 : Fld 5 := by unfold Fld; decide
theorem fld7 : Fld 7 := by unfold Fld; decide
theorem fld11 : Fld 11 := by unfold Fld; decide
theorem fld13 : Fld 13 := by unfold Fld; decide
end Go.Proofs.YtilgbekffbphgaaGreat
