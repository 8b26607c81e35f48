/- Texts joined for a claim: OctH, OctI, OctJ, AuP. -/
import Derived.Test.YtilgbekffbphgaaGreatJbg
import Derived.Test.YtilgbekffbphgaaGreatHcQ
import Derived.Test.YtilgbekffbphgaaGreatJaz
namespace Go.Proofs.YtilgbekffbphgaaGreat
@[ext] structure H3 (n : Nat) where
 a : Fin n
 b : Fin n
 c : Fin n
 u : Oc n
 v : Oc n
 t : Oc n
section
variable {n : Nat} [NeZero n]
def toH (n : Nat) [NeZero n] (X : Her) : H3 n := ⟨toF n (X.d 0), toF n (X.d 1), toF n (X.d 2), toO n (X.r 0), toO n (X.r 1), toO n (X.r 2)⟩
def odt (g h k : Fin n) (x y : Oc n) : Fin n := x.a0 * y.a0 - g * x.a1 * y.a1 - h * x.a2 * y.a2 + g * h * x.a3 * y.a3 - k * x.a4 * y.a4 + g * k * x.a5 * y.a5 + h * k * x.a6 * y.a6 - g * h * k * x.a7 * y.a7
theorem onm_odt (g h k : Fin n) (x : Oc n) : onm g h k x = odt g h k x x := by have _h : NeZero n := inferInstance; unfold onm odt; grind
theorem omul_re (g h k : Fin n) (x y : Oc n) : (omul g h k x (ocj y)).a0 = odt g h k x y := by unfold omul ocj odt; grind
def JC (g h k iv : Fin n) (X Y : H3 n) : H3 n :=
  ⟨X.a * Y.a + odt g h k X.t Y.t + odt g h k X.v Y.v, X.b * Y.b + odt g h k X.u Y.u + odt g h k X.t Y.t, X.c * Y.c + odt g h k X.v Y.v + odt g h k X.u Y.u,
   osc iv (oad (ocj (oad (omul g h k X.v Y.t) (omul g h k Y.v X.t))) (oad (osc (X.b + X.c) Y.u) (osc (Y.b + Y.c) X.u))),
   osc iv (oad (ocj (oad (omul g h k X.t Y.u) (omul g h k Y.t X.u))) (oad (osc (X.c + X.a) Y.v) (osc (Y.c + Y.a) X.v))),
   osc iv (oad (ocj (oad (omul g h k X.u Y.v) (omul g h k Y.u X.v))) (oad (osc (X.a + X.b) Y.t) (osc (Y.a + Y.b) X.t)))⟩
/-! ### Entries -/
def ore (c : Fin n) : Oc n := ⟨c, 0, 0, 0, 0, 0, 0, 0⟩
theorem toO_one {p c : Int} {m : Nat} (hp : p = n) (hm : 0 < m) : toO n (scaleL p (oneL m 0) c) = ore (toF n c) := by
 rw [toO_scale hp]
 have h : ∀ i, i ≠ 0 -> toF n ((oneL m 0).getD i 0) = 0 := fun i hi => by
  unfold oneL
  rw [List.getD_eq_getElem?_getD, List.getElem?_set_ne (Ne.symm hi), List.getElem?_replicate]
  split <;> simp [toF_zero]
 have h0 : toF n ((oneL m 0).getD 0 0) = 1 := by
  unfold oneL
  rw [List.getD_eq_getElem?_getD, List.getElem?_set_self (by simpa using hm)]
  exact toF_one n
 unfold osc toO ore
 simp only [h0, h 1 (by decide), h 2 (by decide), h 3 (by decide), h 4 (by decide), h 5 (by decide), h 6 (by decide), h 7 (by decide)]
 apply Oc.ext <;> grind
theorem toO_zeros {m : Nat} : toO n (List.replicate m 0) = ore 0 := by
 have h : ∀ i, toF n ((List.replicate m (0 : Int)).getD i 0) = 0 := fun i => by
  rw [List.getD_eq_getElem?_getD, List.getElem?_replicate]
  split <;> simp [toF_zero]
 unfold toO ore
 simp only [h]
theorem getD_toO {xs : List Int} : toF n (xs.getD 0 0) = (toO n xs).a0 := rfl
theorem toO_eop {p : Int} {st : List Int} {X Y : Her} {i j : Nat} (hp : p = n) (hp1 : 2 <= p) (hst : st.length <= 3) (hX : isH p (sz st.length) X = true) (hY : isH p (sz st.length) Y = true) (hi : i < 3) (hj : j < 3) :
  toO n (eopH p st X Y i j) = oad (oad (omul (gam n st 0) (gam n st 1) (gam n st 2) (toO n (entryH p (sz st.length) X i 0)) (toO n (entryH p (sz st.length) Y 0 j))) (omul (gam n st 0) (gam n st 1) (gam n st 2) (toO n (entryH p (sz st.length) X i 1)) (toO n (entryH p (sz st.length) Y 1 j)))) (omul (gam n st 0) (gam n st 1) (gam n st 2) (toO n (entryH p (sz st.length) X i 2)) (toO n (entryH p (sz st.length) Y 2 j))) := by
 have ex : ∀ k, k < 3 -> Ev p (sz st.length) (entryH p (sz st.length) X i k) := fun k hk => entryH_ev hp1 hX hi hk
 have ey : ∀ k, k < 3 -> Ev p (sz st.length) (entryH p (sz st.length) Y k j) := fun k hk => entryH_ev hp1 hY hk hj
 have em : ∀ k, k < 3 -> Ev p (sz st.length) (mulL p st (entryH p (sz st.length) X i k) (entryH p (sz st.length) Y k j)) := fun k hk => mulL_ev (by omega) (ex k hk) (ey k hk)
 have ez : Ev p (sz st.length) (List.replicate (sz st.length) 0) := Ev.zero (by omega)
 have e1 := ez.plus (k := 1) (by omega) (em 0 (by omega))
 have e2 := e1.plus (k := 1) (by omega) (em 1 (by omega))
 unfold eopH
 rw [toO_plus hp (by rw [(em 2 (by omega)).1, e2.1]), toO_plus hp (by rw [(em 1 (by omega)).1, e1.1]), toO_plus hp (by rw [(em 0 (by omega)).1, ez.1]),
  toO_mul hp hst (ex 0 (by omega)).1 (ey 0 (by omega)).1, toO_mul hp hst (ex 1 (by omega)).1 (ey 1 (by omega)).1, toO_mul hp hst (ex 2 (by omega)).1 (ey 2 (by omega)).1, toO_zeros, toF_one]
 unfold oad osc ore
 apply Oc.ext <;> grind
theorem toO_ent {p : Int} {m : Nat} {X : Her} (hp : p = n) (hm : 0 < m) :
  toO n (entryH p m X 0 0) = ore (toH n X).a /\ toO n (entryH p m X 1 1) = ore (toH n X).b /\ toO n (entryH p m X 2 2) = ore (toH n X).c /\
  toO n (entryH p m X 1 2) = (toH n X).u /\ toO n (entryH p m X 2 1) = ocj (toH n X).u /\ toO n (entryH p m X 2 0) = (toH n X).v /\ toO n (entryH p m X 0 2) = ocj (toH n X).v /\
  toO n (entryH p m X 0 1) = (toH n X).t /\ toO n (entryH p m X 1 0) = ocj (toH n X).t :=
 ⟨toO_one hp hm, toO_one hp hm, toO_one hp hm, rfl, toO_conj hp, rfl, toO_conj hp, rfl, toO_conj hp⟩
theorem toO_half {p : Int} {st : List Int} {X Y : Her} {i j : Nat} (hp : p = n) (hp1 : 2 <= p) (hX : isH p (sz st.length) X = true) (hY : isH p (sz st.length) Y = true) (hi : i < 3) (hj : j < 3) :
  toO n (halfH p st X Y i j) = osc (toF n (invL p 2)) (oad (toO n (eopH p st X Y i j)) (toO n (eopH p st Y X i j))) := by
 unfold halfH
 rw [toO_scale hp, toO_plus hp (by rw [(eopH_ev hp1 hX hY hi hj).1, (eopH_ev hp1 hY hX hi hj).1]), toF_one]
 congr 1
 unfold oad osc
 apply Oc.ext <;> grind
theorem toH_jordan {p : Int} {st : List Int} {X Y : Her} (hp : p = n) (hp1 : 2 <= p) (hst : st.length <= 3) (hX : isH p (sz st.length) X = true) (hY : isH p (sz st.length) Y = true) (hiv : 2 * toF n (invL p 2) = 1) :
  toH n (jordanH p st X Y) = JC (gam n st 0) (gam n st 1) (gam n st 2) (toF n (invL p 2)) (toH n X) (toH n Y) := by
 have hm : 0 < sz st.length := Nat.pow_pos (by decide)
 have H : ∀ i j, i < 3 -> j < 3 -> toO n (halfH p st X Y i j) = _ := fun i j hi hj => toO_half (n := n) hp hp1 hX hY hi hj
 obtain ⟨x00, x11, x22, x12, x21, x20, x02, x01, x10⟩ := toO_ent (n := n) (p := p) (m := sz st.length) (X := X) hp hm
 obtain ⟨y00, y11, y22, y12, y21, y20, y02, y01, y10⟩ := toO_ent (n := n) (p := p) (m := sz st.length) (X := Y) hp hm
 have e : ∀ i j, i < 3 -> j < 3 -> toO n (eopH p st X Y i j) = _ := fun i j hi hj => toO_eop (n := n) hp hp1 hst hX hY hi hj
 have f : ∀ i j, i < 3 -> j < 3 -> toO n (eopH p st Y X i j) = _ := fun i j hi hj => toO_eop (n := n) hp hp1 hst hY hX hi hj
 have h00 := H 0 0 (by omega) (by omega)
 have h11 := H 1 1 (by omega) (by omega)
 have h22 := H 2 2 (by omega) (by omega)
 have h12 := H 1 2 (by omega) (by omega)
 have h20 := H 2 0 (by omega) (by omega)
 have h01 := H 0 1 (by omega) (by omega)
 rw [e 0 0 (by omega) (by omega), f 0 0 (by omega) (by omega), x00, x01, x02, y00, y10, y20, y01, y02, x10, x20] at h00
 rw [e 1 1 (by omega) (by omega), f 1 1 (by omega) (by omega), x10, x11, x12, y01, y11, y21, y10, y12, x01, x21] at h11
 rw [e 2 2 (by omega) (by omega), f 2 2 (by omega) (by omega), x20, x21, x22, y02, y12, y22, y20, y21, x02, x12] at h22
 rw [e 1 2 (by omega) (by omega), f 1 2 (by omega) (by omega), x10, x11, x12, y02, y12, y22, y10, y11, x02, x22] at h12
 rw [e 2 0 (by omega) (by omega), f 2 0 (by omega) (by omega), x20, x21, x22, y00, y10, y20, y21, y22, x00, x10] at h20
 rw [e 0 1 (by omega) (by omega), f 0 1 (by omega) (by omega), x00, x01, x02, y01, y11, y21, y00, y02, x11, x21] at h01
 obtain ⟨iv, hv⟩ : ∃ z, z = toF n (invL p 2) := ⟨_, rfl⟩
 rw [<- hv] at hiv h00 h11 h22 h12 h20 h01 ⊢
 have ed : toH n (jordanH p st X Y) = ⟨(toO n (halfH p st X Y 0 0)).a0, (toO n (halfH p st X Y 1 1)).a0, (toO n (halfH p st X Y 2 2)).a0, toO n (halfH p st X Y 1 2), toO n (halfH p st X Y 2 0), toO n (halfH p st X Y 0 1)⟩ := rfl
 rw [ed, h00, h11, h22, h12, h20, h01]
 clear ed h00 h11 h22 h12 h20 h01 e f H
 generalize toH n X = A
 generalize toH n Y = B
 generalize gam n st 0 = g; generalize gam n st 1 = h; generalize gam n st 2 = k
 clear x00 x11 x22 x12 x21 x20 x02 x01 x10 y00 y11 y22 y12 y21 y20 y02 y01 y10 hX hY hv
 unfold JC
 apply H3.ext
 ·unfold osc oad omul ocj ore odt; grind
 ·unfold osc oad omul ocj ore odt; grind
 ·unfold osc oad omul ocj ore odt; grind
 ·unfold osc oad omul ocj ore; apply Oc.ext <;> grind
 ·unfold osc oad omul ocj ore; apply Oc.ext <;> grind
 ·unfold osc oad omul ocj ore; apply Oc.ext <;> grind
end
section
variable {n : Nat} [NeZero n]
theorem toF_norm {p : Int} {st x : List Int} (hp : p = n) (hp1 : 2 <= p) (hst : st.length <= 3) (hx : Ev p (sz st.length) x) : toF n (normL p st x) = onm (gam n st 0) (gam n st 1) (gam n st 2) (toO n x) := by
 unfold normL
 rw [getD_toO, toO_mul hp hst hx.1 (hx.conj (by omega)).1, toO_conj hp, omul_re, onm_odt]
theorem isH_rows {p : Int} {m : Nat} {X : Her} (h : isH p m X = true) : Ev p m (X.r 0) /\ Ev p m (X.r 1) /\ Ev p m (X.r 2) := by
 obtain ⟨a, b, c, u, v, t, rfl, _, _, _, _, _, _, eu, ev, et⟩ := isH_op h
 exact ⟨eu, ev, et⟩
theorem toF_inj {p a b : Int} (hp : p = n) (ha : 0 <= a /\ a < p) (hb : 0 <= b /\ b < p) (h : toF n a = toF n b) : a = b := by
 rw [toF_eq, <- hp, Int.emod_eq_of_lt ha.1 ha.2, Int.emod_eq_of_lt hb.1 hb.2] at h
 exact h
theorem toH_inj {p : Int} {m : Nat} {X Y : Her} (hp : p = n) (hm : m <= 8) (hX : isH p m X = true) (hY : isH p m Y = true) (h : toH n X = toH n Y) : X = Y := by
 obtain ⟨a, b, c, u, v, t, rfl, h1, h2, h3, h4, h5, h6, eu, ev, et⟩ := isH_op hX
 obtain ⟨a', b', c', u', v', t', rfl, k1, k2, k3, k4, k5, k6, eu', ev', et'⟩ := isH_op hY
 unfold toH at h
 simp only [H3.mk.injEq] at h
 obtain ⟨g1, g2, g3, g4, g5, g6⟩ := h
 have q1 : a = a' := toF_inj hp ⟨h1, h2⟩ ⟨k1, k2⟩ g1
 have q2 : b = b' := toF_inj hp ⟨h3, h4⟩ ⟨k3, k4⟩ g2
 have q3 : c = c' := toF_inj hp ⟨h5, h6⟩ ⟨k5, k6⟩ g3
 have q4 : u = u' := toO_inj hp hm eu eu' g4
 have q5 : v = v' := toO_inj hp hm ev ev' g5
 have q6 : t = t' := toO_inj hp hm et et' g6
 rw [q1, q2, q3, q4, q5, q6]
end
section
variable {n : Nat} [NeZero n] (g h k : Fin n)
theorem omul_addl (x y z : Oc n) : omul g h k (oad x y) z = oad (omul g h k x z) (omul g h k y z) := by unfold omul oad; apply Oc.ext <;> grind
theorem omul_addr (x y z : Oc n) : omul g h k z (oad x y) = oad (omul g h k z x) (omul g h k z y) := by unfold omul oad; apply Oc.ext <;> grind
theorem omul_oscl (c : Fin n) (x y : Oc n) : omul g h k (osc c x) y = osc c (omul g h k x y) := by unfold omul osc; apply Oc.ext <;> grind
theorem omul_oscr (c : Fin n) (x y : Oc n) : omul g h k x (osc c y) = osc c (omul g h k x y) := by unfold omul osc; apply Oc.ext <;> grind
theorem ocj_ocj (x : Oc n) : ocj (ocj x) = x := by unfold ocj; apply Oc.ext <;> grind
theorem odt_movr (x y z : Oc n) : odt g h k (omul g h k x y) z = odt g h k x (omul g h k z (ocj y)) := by unfold odt omul ocj; grind
end
section
variable {p : Int} {st : List Int} {M : List (List Int)} {m : Nat}
theorem sp_ind {P : List Int -> Prop} (hp : 1 <= p) (h0 : P (zeroL m)) (hs : ∀ x i c, Ev p m x -> i < m -> P x -> P (plusL p x (oneL m i) c)) {x : List Int} (hx : Ev p m x) : P x := by
 have at_ : ∀ k j, j < m -> (((List.range m).map fun j => if j < k then x.getD j 0 else 0).getD j 0) = if j < k then x.getD j 0 else 0 := fun k j hj => by simp [List.getD_eq_getElem?_getD, hj]
 have ev : ∀ k, Ev p m ((List.range m).map fun j => if j < k then x.getD j 0 else 0) := fun k => ⟨by simp, fun y hy => by
  obtain ⟨j, _, rfl⟩ := List.mem_map.1 hy
  show 0 <= (if j < k then x.getD j 0 else 0) /\ (if j < k then x.getD j 0 else 0) < p
  split
  ·exact hx.at hp j
  ·omega⟩
 have key : ∀ k, k <= m -> P ((List.range m).map fun j => if j < k then x.getD j 0 else 0) := fun k => by
  induction k with
  | zero =>
   intro _
   have e : ((List.range m).map fun j => if j < 0 then x.getD j 0 else 0) = zeroL m := by
    refine ext_at (by simp [zero_len]) fun j hj => ?_
    rw [at_ 0 j (by simpa using hj), zero_at, if_neg (by omega)]
   rw [e]; exact h0
  | succ k ih =>
   intro hk
   have e : ((List.range m).map fun j => if j < k + 1 then x.getD j 0 else 0) = plusL p ((List.range m).map fun j => if j < k then x.getD j 0 else 0) (oneL m k) (x.getD k 0) := by
    refine ext_at (by rw [plusL_len (by simp [oneL_len])]; simp) fun j hj0 => ?_
    have hj : j < m := by simpa using hj0
    rw [at_ (k + 1) j hj, plus_at (by simp [oneL_len]), at_ k j hj, one_at]
    by_cases h1 : j = k
    ·subst h1
     rw [if_pos (by omega), if_neg (by omega), if_pos ⟨rfl, hj⟩, Int.zero_add, Int.mul_one, hx.md hp]
    ·rw [if_neg (show ¬ (j = k /\ k < m) from fun h => h1 h.1), Int.mul_zero, Int.add_zero]
     by_cases h2 : j < k
     ·rw [if_pos (by omega), if_pos h2, hx.md hp]
     ·rw [if_neg (by omega), if_neg h2]; simp
   rw [e]
   exact hs _ _ _ (ev k) (by omega) (ih (by omega))
 have e : ((List.range m).map fun j => if j < m then x.getD j 0 else 0) = x := by
  refine ext_at (by simp [hx.1]) fun j hj => ?_
  have hj : j < m := by simpa using hj
  rw [at_ m j hj, if_pos hj]
 rw [<- e]
 exact key m (Nat.le_refl _)
theorem dotS_comm : ∀ {x y : List Int}, dotS x y = dotS y x
 | [], [] => rfl
 | [], _ :: _ => rfl
 | _ :: _, [] => rfl
 | a :: x, b :: y => by
  show a * b + dotS x y = b * a + dotS y x
  rw [dotS_comm (x := x), Int.mul_comm]
theorem dotS_plusF {n : Nat} [NeZero n] {c : Int} (hp : p = n) : ∀ {r x y : List Int}, y.length = x.length -> toF n (dotS r (plusL p x y c)) = toF n (dotS r x) + toF n c * toF n (dotS r y)
 | [], x, y, _ => by
  show toF n 0 = toF n 0 + toF n c * toF n 0
  rw [toF_zero]; grind
 | a :: r, [], y, h => by
  obtain rfl : y = [] := List.length_eq_zero_iff.1 (by simpa using h)
  show toF n 0 = toF n 0 + toF n c * toF n 0
  rw [toF_zero]; grind
 | a :: r, x :: xs, [], h => by simp at h
 | a :: r, x :: xs, y :: ys, h => by
  have ih := dotS_plusF (c := c) hp (r := r) (x := xs) (y := ys) (by simpa using h)
  show toF n (a * ((x + c * y) % p) + dotS r (plusL p xs ys c)) = toF n (a * x + dotS r xs) + toF n c * toF n (a * y + dotS r ys)
  subst hp
  simp only [toF_add, toF_mul, toF_mod, ih]
  grind
theorem applyL_ev (hp : 1 <= p) (hM : matB p m M = true) (v : List Int) : Ev p m (applyL p M v) := by
 obtain ⟨h1, _⟩ := matB_iff.1 hM
 refine ⟨by unfold applyL; rw [List.length_map]; exact h1, fun x hx => ?_⟩
 obtain ⟨r, _, rfl⟩ := List.mem_map.1 hx
 exact ⟨Int.emod_nonneg _ (by omega), Int.emod_lt_of_pos _ (by omega)⟩
theorem apply_plus {x y : List Int} {c : Int} (hp : IsP p) (hl : y.length = x.length) : applyL p M (plusL p x y c) = plusL p (applyL p M x) (applyL p M y) c := by
 unfold applyL plusL
 rw [List.zipWith_map_left, List.zipWith_map_right, List.zipWith_self]
 refine List.map_congr_left fun r _ => ?_
 refine hp.nat fun n _ hn => ?_
 subst hn
 show dotS r (plusL _ x y c) % _ = (dotS r x % _ + c * (dotS r y % _)) % _
 rw [<- toF_eq, dotS_plusF rfl hl]
 simp only [toF_add, toF_mul, toF_mod]
theorem apply_zero (hp : 1 <= p) (hM : matB p m M = true) : applyL p M (zeroL m) = zeroL m := by
 obtain ⟨h1, _⟩ := matB_iff.1 hM
 refine (applyL_ev hp hM _).ext (zeroL_ev hp) fun j => ?_
 rw [zero_at]
 unfold applyL
 rw [List.getD_eq_getElem?_getD, List.getElem?_map]
 cases M[j]? with
 | none => rfl
 | some r =>
  show dotL p r (zeroL m) = 0
  unfold dotL
  rw [dotS_zr (fun j => zero_at), Int.zero_emod]
theorem apply_unit (hp : 1 <= p) (hM : matB p m M = true) {i : Nat} (hi : i < m) : applyL p M (oneL m i) = colL M i := by
 rw [apply_sup one_sup, one_at, if_pos ⟨rfl, hi⟩]
 exact scaleL_id (colL_ev hp hM i).2
theorem mul_plusl (hd : Dok p st) {x y z : List Int} {c : Int} (hx : Ev p (sz st.length) x) (hy : Ev p (sz st.length) y) (hz : Ev p (sz st.length) z) :
  mulL p st (plusL p x y c) z = plusL p (mulL p st x z) (mulL p st y z) c := by
 have h2 := hd.hp.lo
 have e1 := mulL_ev (p := p) (by omega) hx hz
 have e2 := mulL_ev (p := p) (by omega) hy hz
 have e3 := hx.plus (k := c) (show 1 <= p by omega) hy
 refine hd.hp.nat fun n _ hn => toO_inj (n := n) hn (sz_le hd).2 (mulL_ev (by omega) e3 hz) (e1.plus (by omega) e2) ?_
 rw [toO_mul hn hd.hl e3.1 hz.1, toO_plus hn (hy.1.trans hx.1.symm), toO_plus hn (e2.1.trans e1.1.symm), toO_mul hn hd.hl hx.1 hz.1, toO_mul hn hd.hl hy.1 hz.1, omul_addl, omul_oscl]
theorem mul_plusr (hd : Dok p st) {x y z : List Int} {c : Int} (hx : Ev p (sz st.length) x) (hy : Ev p (sz st.length) y) (hz : Ev p (sz st.length) z) :
  mulL p st z (plusL p x y c) = plusL p (mulL p st z x) (mulL p st z y) c := by
 have h2 := hd.hp.lo
 have e1 := mulL_ev (p := p) (by omega) hz hx
 have e2 := mulL_ev (p := p) (by omega) hz hy
 have e3 := hx.plus (k := c) (show 1 <= p by omega) hy
 refine hd.hp.nat fun n _ hn => toO_inj (n := n) hn (sz_le hd).2 (mulL_ev (by omega) hz e3) (e1.plus (by omega) e2) ?_
 rw [toO_mul hn hd.hl hz.1 e3.1, toO_plus hn (hy.1.trans hx.1.symm), toO_plus hn (e2.1.trans e1.1.symm), toO_mul hn hd.hl hz.1 hx.1, toO_mul hn hd.hl hz.1 hy.1, omul_addr, omul_oscr]
theorem mul_zerol (hd : Dok p st) {z : List Int} (hz : Ev p (sz st.length) z) : mulL p st (zeroL (sz st.length)) z = zeroL (sz st.length) := by
 have h1 : 1 <= p := by have := hd.hp.lo; omega
 have e := mul_plusl (c := -1) hd (zeroL_ev h1) (zeroL_ev (m := sz st.length) h1) hz
 have em := mulL_ev (p := p) h1 (zeroL_ev (m := sz st.length) h1) hz
 rw [plus_zero h1 (zeroL_ev h1)] at e
 rw [e]
 refine (em.plus h1 em).ext (zeroL_ev h1) fun j => ?_
 rw [pat em em, zero_at, show (mulL p st (zeroL (sz st.length)) z).getD j 0 + -1 * (mulL p st (zeroL (sz st.length)) z).getD j 0 = 0 by omega, Int.zero_emod]
theorem mul_zeror (hd : Dok p st) {z : List Int} (hz : Ev p (sz st.length) z) : mulL p st z (zeroL (sz st.length)) = zeroL (sz st.length) := by
 have h1 : 1 <= p := by have := hd.hp.lo; omega
 have e := mul_plusr (c := -1) hd (zeroL_ev h1) (zeroL_ev (m := sz st.length) h1) hz
 have em := mulL_ev (p := p) h1 hz (zeroL_ev (m := sz st.length) h1)
 rw [plus_zero h1 (zeroL_ev h1)] at e
 rw [e]
 refine (em.plus h1 em).ext (zeroL_ev h1) fun j => ?_
 rw [pat em em, zero_at, show (mulL p st z (zeroL (sz st.length))).getD j 0 + -1 * (mulL p st z (zeroL (sz st.length))).getD j 0 = 0 by omega, Int.zero_emod]
theorem aut_basis (h : autK p st M = true) {i k : Nat} (hi : i < sz st.length) (hk : k < sz st.length) : applyL p M (mulL p st (oneL (sz st.length) i) (oneL (sz st.length) k)) = mulL p st (colL M i) (colL M k) := by
 unfold autK at h
 rw [Bool.and_eq_true] at h
 have h1 := List.all_eq_true.1 h.2 i (List.mem_range.2 hi)
 exact of_decide_eq_true (List.all_eq_true.1 h1 k (List.mem_range.2 hk))
theorem aut_mul (hd : Dok p st) (hM : matB p (sz st.length) M = true) (h : ∀ i, i < sz st.length -> ∀ k, k < sz st.length -> applyL p M (mulL p st (oneL (sz st.length) i) (oneL (sz st.length) k)) = mulL p st (colL M i) (colL M k))
  {x y : List Int} (hx : Ev p (sz st.length) x) (hy : Ev p (sz st.length) y) : applyL p M (mulL p st x y) = mulL p st (applyL p M x) (applyL p M y) := by
 have h1 : 1 <= p := by have := hd.hp.lo; omega
 have h2 : 2 <= p := by have := hd.hp.lo; omega
 have eone : ∀ i, Ev p (sz st.length) (oneL (sz st.length) i) := fun i => Ev.one h2
 have step1 : ∀ k, k < sz st.length -> ∀ x, Ev p (sz st.length) x -> applyL p M (mulL p st x (oneL (sz st.length) k)) = mulL p st (applyL p M x) (colL M k) := fun k hk x hx => by
  refine sp_ind (P := fun x => applyL p M (mulL p st x (oneL (sz st.length) k)) = mulL p st (applyL p M x) (colL M k)) h1 ?_ ?_ hx
  ·rw [mul_zerol hd (eone k), apply_zero h1 hM, mul_zerol hd (colL_ev h1 hM k)]
  ·intro x i c ex hi ih
   rw [mul_plusl hd ex (eone i) (eone k), apply_plus hd.hp (((mulL_ev h1 (eone i) (eone k)).1).trans (mulL_ev h1 ex (eone k)).1.symm), ih, h i hi k hk, apply_plus hd.hp ((eone i).1.trans ex.1.symm), apply_unit h1 hM hi,
    mul_plusl hd (applyL_ev h1 hM x) (colL_ev h1 hM i) (colL_ev h1 hM k)]
 refine sp_ind (P := fun y => applyL p M (mulL p st x y) = mulL p st (applyL p M x) (applyL p M y)) h1 ?_ ?_ hy
 ·rw [mul_zeror hd hx, apply_zero h1 hM, mul_zeror hd (applyL_ev h1 hM x)]
 ·intro y i c ey hi ih
  rw [mul_plusr hd ey (eone i) hx, apply_plus hd.hp (((mulL_ev h1 hx (eone i)).1).trans (mulL_ev h1 hx ey).1.symm), ih, step1 i hi x hx, apply_plus hd.hp ((eone i).1.trans ey.1.symm), apply_unit h1 hM hi,
   mul_plusr hd (applyL_ev h1 hM y) (colL_ev h1 hM i) (applyL_ev h1 hM x)]
theorem dot_span {n : Nat} [NeZero n] (hn : p = n) {v : List Int} : ∀ {rows : List (List Int)} {cs : List Int}, Rw p m rows -> (∀ r ∈ rows, toF n (dotS r v) = 0) -> toF n (dotS (comb p m cs rows) v) = 0
 | [], [], _, _ => by show toF n (dotS (zeroL m) v) = 0; rw [dotS_comm, dotS_zr (fun j => zero_at), toF_zero]
 | [], _ :: _, _, _ => by show toF n (dotS (zeroL m) v) = 0; rw [dotS_comm, dotS_zr (fun j => zero_at), toF_zero]
 | _ :: _, [], _, _ => by show toF n (dotS (zeroL m) v) = 0; rw [dotS_comm, dotS_zr (fun j => zero_at), toF_zero]
 | r :: rs, c :: cs, h, hz => by
  have hp : 1 <= p := by have := Nat.pos_of_neZero n; omega
  show toF n (dotS (plusL p (comb p m cs rs) r c) v) = 0
  rw [dotS_comm, dotS_plusF hn (h.cons.1.1.trans (comb_ev hp h.cons.2).1.symm), dotS_comm, dot_span hn h.cons.2 (fun x hx => hz x (List.mem_cons_of_mem _ hx)), dotS_comm, hz r (List.mem_cons_self ..)]
  grind
theorem det_inj (hp : IsP p) (hM : matB p m M = true) (hdt : detL p M ≠ 0) {v : List Int} (hv : Ev p m v) (h : applyL p M v = zeroL m) : v = zeroL m := by
 obtain ⟨h1, h2⟩ := matB_iff.1 hM
 have hp1 : 1 <= p := by have := hp.lo; omega
 have hlen := (det_red hp h2 h1).1 hdt
 obtain ⟨hR, hS⟩ := redL_rref (m := m) hp h2
 have hall := asc_full (m := m) (b := 0) hR.asc (fun x hx => by obtain ⟨r, hr, rfl⟩ := List.mem_map.1 hx; exact ⟨Nat.zero_le _, (hR.one r hr).1⟩) (by rw [List.length_map]; omega)
 refine hv.ext (zeroL_ev hp1) fun i => ?_
 rw [zero_at]
 by_cases hi : i < m
 ·obtain ⟨s, hs, hsi⟩ := List.mem_map.1 (hall i (Nat.zero_le _) hi)
  have hse : s = oneL m i := by
   refine (hR.rw_ s hs).ext (Ev.one (by have := hp.lo; omega)) fun j => ?_
   rw [one_at]
   by_cases hj : j = i
   ·subst hj; rw [if_pos ⟨rfl, hi⟩, <- hsi]; exact (hR.one s hs).2
   ·rw [if_neg fun e => hj e.1]
    by_cases hjm : j < m
    ·obtain ⟨t, ht, htj⟩ := List.mem_map.1 (hall j (Nat.zero_le _) hjm)
     rcases Nat.lt_trichotomy j i with h3 | h3 | h3
     ·exact lead_low (by omega)
     ·exact absurd h3 hj
     ·have hne : s ≠ t := fun e => by subst e; omega
      obtain ⟨a, ha, rfl⟩ := List.getElem_of_mem hs
      obtain ⟨b, hb, rfl⟩ := List.getElem_of_mem ht
      have := hR.at ha hb
      rw [htj, if_neg (fun e => hne (by subst e; rfl))] at this
      exact this
    ·exact out_at (by rw [(hR.rw_ s hs).1]; omega)
  obtain ⟨cs, hcs, e⟩ := (hS s).1 (Spn.mem hp1 hR.rw_ hs)
  refine hp.nat fun n _ hn => ?_
  have h0 : ∀ r ∈ M, toF n (dotS r v) = 0 := fun r hr => by
   obtain ⟨k, hk, rfl⟩ := List.getElem_of_mem hr
   have e := congrArg (fun l => l.getD k 0) h
   rw [zero_at] at e
   unfold applyL at e
   simp only [List.getD_eq_getElem?_getD, List.getElem?_map, List.getElem?_eq_getElem hk, Option.map_some, Option.getD_some] at e
   rw [<- toF_mod, <- hn, <- toF_zero]
   exact congrArg (toF n) e
  have hz := dot_span (m := m) hn (cs := cs) h2 h0
  rw [<- e, hse, dotS_comm, dotS_sup one_sup, one_at, if_pos ⟨rfl, hi⟩, Int.mul_one, <- toF_zero, toF_eq, <- hn, hv.md hp1, Int.zero_emod] at hz
  exact hz
 ·exact out_at (by rw [hv.1]; omega)
end
end Go.Proofs.YtilgbekffbphgaaGreat
