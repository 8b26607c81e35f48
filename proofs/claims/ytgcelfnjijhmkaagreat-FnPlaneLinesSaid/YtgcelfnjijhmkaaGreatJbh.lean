/- Texts joined for a claim: OctB, OctH, OctI, OctJ, OctM. -/
import Derived.Test.YtgcelfnjijhmkaaGreatJbg
import Derived.Test.YtgcelfnjijhmkaaGreatHcQ
import Derived.Test.YtgcelfnjijhmkaaGreatHcT
import Derived.Test.YtgcelfnjijhmkaaGreatJbd
/-
  Products of rows as products of octonions, for any number of steps up to three; hermitian matrices over them.
-/
namespace Go.Proofs.YtgcelfnjijhmkaaGreat

section
variable {n : Nat} [NeZero n]
def gam (n : Nat) [NeZero n] (st : List Int) (i : Nat) : Fin n := toF n (st.getD i 0)
theorem toO_mul {p : Int} {st x y : List Int} (hp : p = n) (hst : st.length ≤ 3) (hx : x.length = sz st.length) (hy : y.length = sz st.length) : toO n (mulL p st x y) = omul (gam n st 0) (gam n st 1) (gam n st 2) (toO n x) (toO n y) := by
  match st, hst with
  | [], _ => match x, y, hx, hy with | [a], [b], _, _ => exact toO_mul0 hp _ _ _
  | [s0], _ => match x, y, hx, hy with | [a0, a1], [b0, b1], _, _ => exact (toO_mul1 hp 0 (gam n [s0] 1) (gam n [s0] 2))
  | [s0, s1], _ => match x, y, hx, hy with | [a0, a1, a2, a3], [b0, b1, b2, b3], _, _ => exact (toO_mul2 hp 0 0 (gam n [s0, s1] 2))
  | [s0, s1, s2], _ => match x, y, hx, hy with | [a0, a1, a2, a3, a4, a5, a6, a7], [b0, b1, b2, b3, b4, b5, b6, b7], _, _ => exact (toO_mul3 hp 0 0 0)
theorem toO_inj {p : Int} {m : Nat} {x y : List Int} (hp : p = n) (hm : m ≤ 8) (hx : Ev p m x) (hy : Ev p m y) (h : toO n x = toO n y) : x = y := by
  have key : ∀ i, toF n (x.getD i 0) = toF n (y.getD i 0) → i < m → x[i]? = y[i]? := fun i hi hlt => by
    have h1 : i < x.length := by rw [hx.1]; exact hlt
    have h2 : i < y.length := by rw [hy.1]; exact hlt
    rw [toF_eq, List.getD_eq_getElem?_getD, List.getD_eq_getElem?_getD, List.getElem?_eq_getElem h1, List.getElem?_eq_getElem h2] at hi
    simp only [Option.getD_some] at hi
    have b1 := hx.2 _ (List.getElem_mem h1)
    have b2 := hy.2 _ (List.getElem_mem h2)
    rw [List.getElem?_eq_getElem h1, List.getElem?_eq_getElem h2]
    rw [Int.emod_eq_of_lt b1.1 (by omega), Int.emod_eq_of_lt b2.1 (by omega)] at hi
    rw [hi]
  unfold toO at h
  simp only [Oc.mk.injEq] at h
  obtain ⟨h0, h1, h2, h3, h4, h5, h6, h7⟩ := h
  refine List.ext_getElem? fun i => ?_
  by_cases hi : i < m
  · rcases (show i = 0 ∨ i = 1 ∨ i = 2 ∨ i = 3 ∨ i = 4 ∨ i = 5 ∨ i = 6 ∨ i = 7 by omega) with rfl | rfl | rfl | rfl | rfl | rfl | rfl | rfl
    · exact key 0 h0 hi
    · exact key 1 h1 hi
    · exact key 2 h2 hi
    · exact key 3 h3 hi
    · exact key 4 h4 hi
    · exact key 5 h5 hi
    · exact key 6 h6 hi
    · exact key 7 h7 hi
  · rw [List.getElem?_eq_none (by rw [hx.1]; omega), List.getElem?_eq_none (by rw [hy.1]; omega)]
end
end Go.Proofs.YtgcelfnjijhmkaaGreat
/-
  Hermitian matrices over octonions modulo n: what the program's matrices compute, in closed form.
-/
namespace Go.Proofs.YtgcelfnjijhmkaaGreat

@[ext] structure H3 (n : Nat) where
  a : Fin n
  b : Fin n
  c : Fin n
  u : Oc n
  v : Oc n
  t : Oc n
section
variable {n : Nat} [NeZero n]
def toH (n : Nat) [NeZero n] (X : Her) : H3 n := ⟨toF n (X.d 0), toF n (X.d 1), toF n (X.d 2), toO n (X.r 0), toO n (X.r 1), toO n (X.r 2)⟩
def odt (g h k : Fin n) (x y : Oc n) : Fin n := x.a0 * y.a0 - g * x.a1 * y.a1 - h * x.a2 * y.a2 + g * h * x.a3 * y.a3 - k * x.a4 * y.a4 + g * k * x.a5 * y.a5 + h * k * x.a6 * y.a6 - g * h * k * x.a7 * y.a7
theorem onm_odt (g h k : Fin n) (x : Oc n) : onm g h k x = odt g h k x x := by have _h : NeZero n := inferInstance; unfold onm odt; grind
theorem omul_re (g h k : Fin n) (x y : Oc n) : (omul g h k x (ocj y)).a0 = odt g h k x y := by unfold omul ocj odt; grind
def JC (g h k iv : Fin n) (X Y : H3 n) : H3 n :=
  ⟨X.a * Y.a + odt g h k X.t Y.t + odt g h k X.v Y.v, X.b * Y.b + odt g h k X.u Y.u + odt g h k X.t Y.t, X.c * Y.c + odt g h k X.v Y.v + odt g h k X.u Y.u,
   osc iv (oad (ocj (oad (omul g h k X.v Y.t) (omul g h k Y.v X.t))) (oad (osc (X.b + X.c) Y.u) (osc (Y.b + Y.c) X.u))),
   osc iv (oad (ocj (oad (omul g h k X.t Y.u) (omul g h k Y.t X.u))) (oad (osc (X.c + X.a) Y.v) (osc (Y.c + Y.a) X.v))),
   osc iv (oad (ocj (oad (omul g h k X.u Y.v) (omul g h k Y.u X.v))) (oad (osc (X.a + X.b) Y.t) (osc (Y.a + Y.b) X.t)))⟩
def AC (g h k : Fin n) (X : H3 n) : H3 n :=
  ⟨X.b * X.c - onm g h k X.u, X.c * X.a - onm g h k X.v, X.a * X.b - onm g h k X.t,
   oad (ocj (omul g h k X.v X.t)) (osc (-X.a) X.u), oad (ocj (omul g h k X.t X.u)) (osc (-X.b) X.v), oad (ocj (omul g h k X.u X.v)) (osc (-X.c) X.t)⟩
def TC (X : H3 n) : Fin n := X.a + X.b + X.c
def SC (X : H3 n) (m : Fin n) (Y : H3 n) : H3 n := ⟨X.a + m * Y.a, X.b + m * Y.b, X.c + m * Y.c, oad X.u (osc m Y.u), oad X.v (osc m Y.v), oad X.t (osc m Y.t)⟩
def MC (m : Fin n) (X : H3 n) : H3 n := ⟨m * X.a, m * X.b, m * X.c, osc m X.u, osc m X.v, osc m X.t⟩
/-! ### Entries -/
def ore (c : Fin n) : Oc n := ⟨c, 0, 0, 0, 0, 0, 0, 0⟩
theorem toO_one {p c : Int} {m : Nat} (hp : p = n) (hm : 0 < m) : toO n (scaleL p (oneL m 0) c) = ore (toF n c) := by
  rw [toO_scale hp]
  have h : ∀ i, i ≠ 0 → toF n ((oneL m 0).getD i 0) = 0 := fun i hi => by
    unfold oneL
    rw [List.getD_eq_getElem?_getD, List.getElem?_set_ne (Ne.symm hi), List.getElem?_replicate]
    split <;> simp [toF_zero]
  have h0 : toF n ((oneL m 0).getD 0 0) = 1 := by
    unfold oneL
    rw [List.getD_eq_getElem?_getD, List.getElem?_set_self (by simpa using hm)]
    exact toF_one n
  unfold osc toO ore
  simp only [h0, h 1 (by decide), h 2 (by decide), h 3 (by decide), h 4 (by decide), h 5 (by decide), h 6 (by decide), h 7 (by decide)]
  apply Oc.ext <;> grind
theorem toO_zeros {m : Nat} : toO n (List.replicate m 0) = ore 0 := by
  have h : ∀ i, toF n ((List.replicate m (0 : Int)).getD i 0) = 0 := fun i => by
    rw [List.getD_eq_getElem?_getD, List.getElem?_replicate]
    split <;> simp [toF_zero]
  unfold toO ore
  simp only [h]
theorem getD_toO {xs : List Int} : toF n (xs.getD 0 0) = (toO n xs).a0 := rfl
theorem toO_eop {p : Int} {st : List Int} {X Y : Her} {i j : Nat} (hp : p = n) (hp1 : 2 ≤ p) (hst : st.length ≤ 3) (hX : isH p (sz st.length) X = true) (hY : isH p (sz st.length) Y = true) (hi : i < 3) (hj : j < 3) :
    toO n (eopH p st X Y i j) = oad (oad (omul (gam n st 0) (gam n st 1) (gam n st 2) (toO n (entryH p (sz st.length) X i 0)) (toO n (entryH p (sz st.length) Y 0 j))) (omul (gam n st 0) (gam n st 1) (gam n st 2) (toO n (entryH p (sz st.length) X i 1)) (toO n (entryH p (sz st.length) Y 1 j)))) (omul (gam n st 0) (gam n st 1) (gam n st 2) (toO n (entryH p (sz st.length) X i 2)) (toO n (entryH p (sz st.length) Y 2 j))) := by
  have ex : ∀ k, k < 3 → Ev p (sz st.length) (entryH p (sz st.length) X i k) := fun k hk => entryH_ev hp1 hX hi hk
  have ey : ∀ k, k < 3 → Ev p (sz st.length) (entryH p (sz st.length) Y k j) := fun k hk => entryH_ev hp1 hY hk hj
  have em : ∀ k, k < 3 → Ev p (sz st.length) (mulL p st (entryH p (sz st.length) X i k) (entryH p (sz st.length) Y k j)) := fun k hk => mulL_ev (by omega) (ex k hk) (ey k hk)
  have ez : Ev p (sz st.length) (List.replicate (sz st.length) 0) := Ev.zero (by omega)
  have e1 := ez.plus (k := 1) (by omega) (em 0 (by omega))
  have e2 := e1.plus (k := 1) (by omega) (em 1 (by omega))
  unfold eopH
  rw [toO_plus hp (by rw [(em 2 (by omega)).1, e2.1]), toO_plus hp (by rw [(em 1 (by omega)).1, e1.1]), toO_plus hp (by rw [(em 0 (by omega)).1, ez.1]),
    toO_mul hp hst (ex 0 (by omega)).1 (ey 0 (by omega)).1, toO_mul hp hst (ex 1 (by omega)).1 (ey 1 (by omega)).1, toO_mul hp hst (ex 2 (by omega)).1 (ey 2 (by omega)).1, toO_zeros, toF_one]
  unfold oad osc ore
  apply Oc.ext <;> grind
theorem toO_ent {p : Int} {m : Nat} {X : Her} (hp : p = n) (hm : 0 < m) :
    toO n (entryH p m X 0 0) = ore (toH n X).a ∧ toO n (entryH p m X 1 1) = ore (toH n X).b ∧ toO n (entryH p m X 2 2) = ore (toH n X).c ∧
    toO n (entryH p m X 1 2) = (toH n X).u ∧ toO n (entryH p m X 2 1) = ocj (toH n X).u ∧ toO n (entryH p m X 2 0) = (toH n X).v ∧ toO n (entryH p m X 0 2) = ocj (toH n X).v ∧
    toO n (entryH p m X 0 1) = (toH n X).t ∧ toO n (entryH p m X 1 0) = ocj (toH n X).t :=
  ⟨toO_one hp hm, toO_one hp hm, toO_one hp hm, rfl, toO_conj hp, rfl, toO_conj hp, rfl, toO_conj hp⟩
theorem toO_half {p : Int} {st : List Int} {X Y : Her} {i j : Nat} (hp : p = n) (hp1 : 2 ≤ p) (hX : isH p (sz st.length) X = true) (hY : isH p (sz st.length) Y = true) (hi : i < 3) (hj : j < 3) :
    toO n (halfH p st X Y i j) = osc (toF n (invL p 2)) (oad (toO n (eopH p st X Y i j)) (toO n (eopH p st Y X i j))) := by
  unfold halfH
  rw [toO_scale hp, toO_plus hp (by rw [(eopH_ev hp1 hX hY hi hj).1, (eopH_ev hp1 hY hX hi hj).1]), toF_one]
  congr 1
  unfold oad osc
  apply Oc.ext <;> grind
theorem toH_jordan {p : Int} {st : List Int} {X Y : Her} (hp : p = n) (hp1 : 2 ≤ p) (hst : st.length ≤ 3) (hX : isH p (sz st.length) X = true) (hY : isH p (sz st.length) Y = true) (hiv : 2 * toF n (invL p 2) = 1) :
    toH n (jordanH p st X Y) = JC (gam n st 0) (gam n st 1) (gam n st 2) (toF n (invL p 2)) (toH n X) (toH n Y) := by
  have hm : 0 < sz st.length := Nat.pow_pos (by decide)
  have H : ∀ i j, i < 3 → j < 3 → toO n (halfH p st X Y i j) = _ := fun i j hi hj => toO_half (n := n) hp hp1 hX hY hi hj
  obtain ⟨x00, x11, x22, x12, x21, x20, x02, x01, x10⟩ := toO_ent (n := n) (p := p) (m := sz st.length) (X := X) hp hm
  obtain ⟨y00, y11, y22, y12, y21, y20, y02, y01, y10⟩ := toO_ent (n := n) (p := p) (m := sz st.length) (X := Y) hp hm
  have e : ∀ i j, i < 3 → j < 3 → toO n (eopH p st X Y i j) = _ := fun i j hi hj => toO_eop (n := n) hp hp1 hst hX hY hi hj
  have f : ∀ i j, i < 3 → j < 3 → toO n (eopH p st Y X i j) = _ := fun i j hi hj => toO_eop (n := n) hp hp1 hst hY hX hi hj
  have h00 := H 0 0 (by omega) (by omega)
  have h11 := H 1 1 (by omega) (by omega)
  have h22 := H 2 2 (by omega) (by omega)
  have h12 := H 1 2 (by omega) (by omega)
  have h20 := H 2 0 (by omega) (by omega)
  have h01 := H 0 1 (by omega) (by omega)
  rw [e 0 0 (by omega) (by omega), f 0 0 (by omega) (by omega), x00, x01, x02, y00, y10, y20, y01, y02, x10, x20] at h00
  rw [e 1 1 (by omega) (by omega), f 1 1 (by omega) (by omega), x10, x11, x12, y01, y11, y21, y10, y12, x01, x21] at h11
  rw [e 2 2 (by omega) (by omega), f 2 2 (by omega) (by omega), x20, x21, x22, y02, y12, y22, y20, y21, x02, x12] at h22
  rw [e 1 2 (by omega) (by omega), f 1 2 (by omega) (by omega), x10, x11, x12, y02, y12, y22, y10, y11, x02, x22] at h12
  rw [e 2 0 (by omega) (by omega), f 2 0 (by omega) (by omega), x20, x21, x22, y00, y10, y20, y21, y22, x00, x10] at h20
  rw [e 0 1 (by omega) (by omega), f 0 1 (by omega) (by omega), x00, x01, x02, y01, y11, y21, y00, y02, x11, x21] at h01
  obtain ⟨iv, hv⟩ : ∃ z, z = toF n (invL p 2) := ⟨_, rfl⟩
  rw [← hv] at hiv h00 h11 h22 h12 h20 h01 ⊢
  have ed : toH n (jordanH p st X Y) = ⟨(toO n (halfH p st X Y 0 0)).a0, (toO n (halfH p st X Y 1 1)).a0, (toO n (halfH p st X Y 2 2)).a0, toO n (halfH p st X Y 1 2), toO n (halfH p st X Y 2 0), toO n (halfH p st X Y 0 1)⟩ := rfl
  rw [ed, h00, h11, h22, h12, h20, h01]
  clear ed h00 h11 h22 h12 h20 h01 e f H
  generalize toH n X = A
  generalize toH n Y = B
  generalize gam n st 0 = g; generalize gam n st 1 = h; generalize gam n st 2 = k
  clear x00 x11 x22 x12 x21 x20 x02 x01 x10 y00 y11 y22 y12 y21 y20 y02 y01 y10 hX hY hv
  unfold JC
  apply H3.ext
  · unfold osc oad omul ocj ore odt; grind
  · unfold osc oad omul ocj ore odt; grind
  · unfold osc oad omul ocj ore odt; grind
  · unfold osc oad omul ocj ore; apply Oc.ext <;> grind
  · unfold osc oad omul ocj ore; apply Oc.ext <;> grind
  · unfold osc oad omul ocj ore; apply Oc.ext <;> grind
end
end Go.Proofs.YtgcelfnjijhmkaaGreat
/-
  Adjoints, sums, multiples, traces over octonions modulo n; points and idempotents.
-/
namespace Go.Proofs.YtgcelfnjijhmkaaGreat

section
variable {n : Nat} [NeZero n]
theorem toF_norm {p : Int} {st x : List Int} (hp : p = n) (hp1 : 2 ≤ p) (hst : st.length ≤ 3) (hx : Ev p (sz st.length) x) : toF n (normL p st x) = onm (gam n st 0) (gam n st 1) (gam n st 2) (toO n x) := by
  unfold normL
  rw [getD_toO, toO_mul hp hst hx.1 (hx.conj (by omega)).1, toO_conj hp, omul_re, onm_odt]
theorem isH_rows {p : Int} {m : Nat} {X : Her} (h : isH p m X = true) : Ev p m (X.r 0) ∧ Ev p m (X.r 1) ∧ Ev p m (X.r 2) := by
  obtain ⟨a, b, c, u, v, t, rfl, _, _, _, _, _, _, eu, ev, et⟩ := isH_op h
  exact ⟨eu, ev, et⟩
theorem toH_adj {p : Int} {st : List Int} {X : Her} (hp : p = n) (hp1 : 2 ≤ p) (hst : st.length ≤ 3) (hX : isH p (sz st.length) X = true) :
    toH n (adjH p st X) = AC (gam n st 0) (gam n st 1) (gam n st 2) (toH n X) := by
  obtain ⟨eu, ev, et⟩ := isH_rows hX
  have row : ∀ {x y z : List Int} {c : Int}, Ev p (sz st.length) x → Ev p (sz st.length) y → Ev p (sz st.length) z →
      toO n (plusL p (conjL p (mulL p st x y)) z (-c)) = oad (ocj (omul (gam n st 0) (gam n st 1) (gam n st 2) (toO n x) (toO n y))) (osc (-toF n c) (toO n z)) := fun hx hy hz => by
    have em := mulL_ev (p := p) (by omega) hx hy
    rw [toO_plus hp (by rw [conjL_len, em.1, hz.1]), toO_conj hp, toO_mul hp hst hx.1 hy.1, toF_neg]
  have dia : ∀ {a b : Int} {x : List Int}, Ev p (sz st.length) x → toF n ((a * b - normL p st x) % p) = toF n a * toF n b - onm (gam n st 0) (gam n st 1) (gam n st 2) (toO n x) := fun hx => by
    rw [show ∀ z : Int, toF n (z % p) = toF n z from fun z => by rw [hp]; exact toF_mod n z, toF_sub, toF_mul, toF_norm hp hp1 hst hx]
  unfold AC
  apply H3.ext
  · exact dia eu
  · exact dia ev
  · exact dia et
  · exact row ev et eu
  · exact row et eu ev
  · exact row eu ev et
theorem toH_sum {p k : Int} {m : Nat} {X Y : Her} (hp : p = n) (hX : isH p m X = true) (hY : isH p m Y = true) : toH n (sumH p X k Y) = SC (toH n X) (toF n k) (toH n Y) := by
  obtain ⟨a, b, c, u, v, t, rfl, _, _, _, _, _, _, eu, ev, et⟩ := isH_op hX
  obtain ⟨a', b', c', u', v', t', rfl, _, _, _, _, _, _, eu', ev', et'⟩ := isH_op hY
  have md : ∀ x y : Int, toF n ((x + k * y) % p) = toF n x + toF n k * toF n y := fun x y => by rw [hp, toF_mod, toF_add, toF_mul]
  unfold SC
  apply H3.ext
  · exact md a a'
  · exact md b b'
  · exact md c c'
  · exact toO_plus hp (eu'.1.trans eu.1.symm)
  · exact toO_plus hp (ev'.1.trans ev.1.symm)
  · exact toO_plus hp (et'.1.trans et.1.symm)
theorem toF_trace {p : Int} {X : Her} (hp : p = n) : toF n (traceH p X) = TC (toH n X) := by
  unfold traceH TC toH
  rw [hp, toF_mod, toF_add, toF_add]
theorem toF_inj {p a b : Int} (hp : p = n) (ha : 0 ≤ a ∧ a < p) (hb : 0 ≤ b ∧ b < p) (h : toF n a = toF n b) : a = b := by
  rw [toF_eq, ← hp, Int.emod_eq_of_lt ha.1 ha.2, Int.emod_eq_of_lt hb.1 hb.2] at h
  exact h
theorem toH_inj {p : Int} {m : Nat} {X Y : Her} (hp : p = n) (hm : m ≤ 8) (hX : isH p m X = true) (hY : isH p m Y = true) (h : toH n X = toH n Y) : X = Y := by
  obtain ⟨a, b, c, u, v, t, rfl, h1, h2, h3, h4, h5, h6, eu, ev, et⟩ := isH_op hX
  obtain ⟨a', b', c', u', v', t', rfl, k1, k2, k3, k4, k5, k6, eu', ev', et'⟩ := isH_op hY
  unfold toH at h
  simp only [H3.mk.injEq] at h
  obtain ⟨g1, g2, g3, g4, g5, g6⟩ := h
  have q1 : a = a' := toF_inj hp ⟨h1, h2⟩ ⟨k1, k2⟩ g1
  have q2 : b = b' := toF_inj hp ⟨h3, h4⟩ ⟨k3, k4⟩ g2
  have q3 : c = c' := toF_inj hp ⟨h5, h6⟩ ⟨k5, k6⟩ g3
  have q4 : u = u' := toO_inj hp hm eu eu' g4
  have q5 : v = v' := toO_inj hp hm ev ev' g5
  have q6 : t = t' := toO_inj hp hm et et' g6
  rw [q1, q2, q3, q4, q5, q6]
def zero3 : H3 n := ⟨0, 0, 0, ore 0, ore 0, ore 0⟩
theorem isZ_nums {p : Int} {m : Nat} {X : Her} (hp : p = n) (hm : m ≤ 8) (hX : isH p m X = true) : isZ (numsH X) = true ↔ toH n X = zero3 := by
  have hp0 : 0 < p := by rw [hp]; have := Nat.pos_of_neZero n; omega
  have hz : ∀ {xs : List Int}, Ev p m xs → (isZ xs = true ↔ toO n xs = ore 0) := fun {xs} hx => by
    have e0 : toO n (List.replicate m 0) = ore 0 := toO_zeros
    have ev0 : Ev p m (List.replicate m 0) := ⟨List.length_replicate, fun x hx => by have := List.eq_of_mem_replicate hx; omega⟩
    constructor
    · intro h
      unfold isZ at h
      rw [List.all_eq_true] at h
      have : xs = List.replicate m 0 := by
        refine List.eq_replicate_iff.2 ⟨hx.1, fun b hb => by simpa using h b hb⟩
      rw [this, e0]
    · intro h
      rw [toO_inj hp hm hx ev0 (by rw [h, e0])]
      unfold isZ
      simp
  obtain ⟨a, b, c, u, v, t, rfl, h1, h2, h3, h4, h5, h6, eu, ev, et⟩ := isH_op hX
  have zi : ∀ {a : Int}, 0 ≤ a → a < p → (a = 0 ↔ toF n a = 0) := fun {a} ha hb => by
    constructor
    · rintro rfl; exact toF_zero n
    · intro h; exact toF_inj hp ⟨ha, hb⟩ ⟨Int.le_refl 0, hp0⟩ (by rw [h, toF_zero])
  have hs : isZ (numsH ⟨[a, b, c], [u, v, t]⟩) = true ↔ (a = 0 ∧ b = 0 ∧ c = 0) ∧ isZ u = true ∧ isZ v = true ∧ isZ t = true := by
    unfold numsH isZ
    simp [and_assoc]
  rw [hs, zi h1 h2, zi h3 h4, zi h5 h6, hz eu, hz ev, hz et]
  unfold toH zero3
  simp only [H3.mk.injEq]
  exact ⟨fun ⟨⟨x, y, z⟩, q, r, s⟩ => ⟨x, y, z, q, r, s⟩, fun ⟨x, y, z, q, r, s⟩ => ⟨⟨x, y, z⟩, q, r, s⟩⟩
theorem MC_zero (m : Fin n) : MC m (zero3 : H3 n) = zero3 := by
  unfold MC zero3 osc ore
  apply H3.ext
  · grind
  · grind
  · grind
  · apply Oc.ext <;> grind
  · apply Oc.ext <;> grind
  · apply Oc.ext <;> grind
end
end Go.Proofs.YtgcelfnjijhmkaaGreat
/-
  Octonions modulo n: bilinearity, the laws of alternation, Moufang's law, and the cyclic real part.
-/
namespace Go.Proofs.YtgcelfnjijhmkaaGreat

section
variable {n : Nat} [NeZero n] (g h k : Fin n)
theorem omul_addl (x y z : Oc n) : omul g h k (oad x y) z = oad (omul g h k x z) (omul g h k y z) := by unfold omul oad; apply Oc.ext <;> grind
theorem omul_addr (x y z : Oc n) : omul g h k z (oad x y) = oad (omul g h k z x) (omul g h k z y) := by unfold omul oad; apply Oc.ext <;> grind
theorem omul_oscl (c : Fin n) (x y : Oc n) : omul g h k (osc c x) y = osc c (omul g h k x y) := by unfold omul osc; apply Oc.ext <;> grind
theorem omul_oscr (c : Fin n) (x y : Oc n) : omul g h k x (osc c y) = osc c (omul g h k x y) := by unfold omul osc; apply Oc.ext <;> grind
theorem ocj_oad (x y : Oc n) : ocj (oad x y) = oad (ocj x) (ocj y) := by unfold ocj oad; apply Oc.ext <;> grind
theorem ocj_osc (c : Fin n) (x : Oc n) : ocj (osc c x) = osc c (ocj x) := by unfold ocj osc; apply Oc.ext <;> grind
theorem ocj_ocj (x : Oc n) : ocj (ocj x) = x := by unfold ocj; apply Oc.ext <;> grind
theorem odt_addl (x y z : Oc n) : odt g h k (oad x y) z = odt g h k x z + odt g h k y z := by unfold odt oad; grind
theorem odt_addr (x y z : Oc n) : odt g h k z (oad x y) = odt g h k z x + odt g h k z y := by unfold odt oad; grind
theorem odt_oscl (c : Fin n) (x y : Oc n) : odt g h k (osc c x) y = c * odt g h k x y := by unfold odt osc; grind
theorem odt_oscr (c : Fin n) (x y : Oc n) : odt g h k x (osc c y) = c * odt g h k x y := by unfold odt osc; grind
theorem odt_comm (x y : Oc n) : odt g h k x y = odt g h k y x := by unfold odt; grind
theorem odt_cj (x y : Oc n) : odt g h k (ocj x) (ocj y) = odt g h k x y := by unfold odt ocj; grind
theorem odt_mulr (x y z : Oc n) : odt g h k (omul g h k x z) (omul g h k y z) = odt g h k z z * odt g h k x y := by unfold odt omul; grind
theorem odt_mull (x y z : Oc n) : odt g h k (omul g h k z x) (omul g h k z y) = odt g h k z z * odt g h k x y := by unfold odt omul; grind
theorem alt_r (x y z : Oc n) : oad (omul g h k (omul g h k x y) (ocj z)) (omul g h k (omul g h k x z) (ocj y)) = osc (2 * odt g h k y z) x := by unfold odt omul ocj oad osc; apply Oc.ext <;> grind
theorem alt_l (x y z : Oc n) : oad (omul g h k (ocj z) (omul g h k y x)) (omul g h k (ocj y) (omul g h k z x)) = osc (2 * odt g h k y z) x := by unfold odt omul ocj oad osc; apply Oc.ext <;> grind
theorem alt_r1 (x y : Oc n) : omul g h k (omul g h k x y) (ocj y) = osc (odt g h k y y) x := by unfold odt omul ocj osc; apply Oc.ext <;> grind
theorem alt_l1 (x y : Oc n) : omul g h k (ocj y) (omul g h k y x) = osc (odt g h k y y) x := by unfold odt omul ocj osc; apply Oc.ext <;> grind
end
end Go.Proofs.YtgcelfnjijhmkaaGreat
/-
  Moufang's law of octonions modulo n, and its linear form.
-/
namespace Go.Proofs.YtgcelfnjijhmkaaGreat

section
variable {n : Nat} [NeZero n] (g h k : Fin n)
set_option maxHeartbeats 4000000 in
theorem mo (u v w : Oc n) : omul g h k (omul g h k u v) (omul g h k w u) = oad (osc (2 * odt g h k u (omul g h k (ocj w) (ocj v))) u) (osc (-(odt g h k u u)) (omul g h k (ocj w) (ocj v))) := by
  unfold odt omul ocj oad osc
  apply Oc.ext
  · grind
  · grind
  · grind
  · grind
  · grind
  · grind
  · grind
  · grind
theorem mo_lin (u u' v w : Oc n) : oad (omul g h k (omul g h k u v) (omul g h k w u')) (omul g h k (omul g h k u' v) (omul g h k w u)) =
    oad (oad (osc (2 * odt g h k u (omul g h k (ocj w) (ocj v))) u') (osc (2 * odt g h k u' (omul g h k (ocj w) (ocj v))) u)) (osc (-(2 * odt g h k u u')) (omul g h k (ocj w) (ocj v))) := by
  have h1 := mo g h k (oad u u') v w
  have h2 := mo g h k u v w
  have h3 := mo g h k u' v w
  simp only [omul_addl, omul_addr, odt_addl, odt_addr] at h1
  rw [h2, h3] at h1
  have hc := odt_comm g h k u u'
  generalize omul g h k (omul g h k u v) (omul g h k w u') = A at *
  generalize omul g h k (omul g h k u' v) (omul g h k w u) = B at *
  generalize omul g h k (ocj w) (ocj v) = c at *
  generalize odt g h k u c = s1 at *
  generalize odt g h k u' c = s2 at *
  generalize odt g h k u u' = s3 at *
  generalize odt g h k u' u = s4 at *
  generalize odt g h k u u = s5 at *
  generalize odt g h k u' u' = s6 at *
  subst hc
  have e0 := congrArg Oc.a0 h1; have e1 := congrArg Oc.a1 h1; have e2 := congrArg Oc.a2 h1; have e3 := congrArg Oc.a3 h1
  have e4 := congrArg Oc.a4 h1; have e5 := congrArg Oc.a5 h1; have e6 := congrArg Oc.a6 h1; have e7 := congrArg Oc.a7 h1
  clear h1 h2 h3
  dsimp only [oad, osc] at e0 e1 e2 e3 e4 e5 e6 e7 ⊢
  apply Oc.ext
  · clear e1 e2 e3 e4 e5 e6 e7; dsimp only; grind
  · clear e0 e2 e3 e4 e5 e6 e7; dsimp only; grind
  · clear e0 e1 e3 e4 e5 e6 e7; dsimp only; grind
  · clear e0 e1 e2 e4 e5 e6 e7; dsimp only; grind
  · clear e0 e1 e2 e3 e5 e6 e7; dsimp only; grind
  · clear e0 e1 e2 e3 e4 e6 e7; dsimp only; grind
  · clear e0 e1 e2 e3 e4 e5 e7; dsimp only; grind
  · clear e0 e1 e2 e3 e4 e5 e6; dsimp only; grind
end
end Go.Proofs.YtgcelfnjijhmkaaGreat
