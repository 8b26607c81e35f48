/-
  Hermitian matrices over octonions modulo n: what the program's matrices compute, in closed form.
-/
import Derived.Test.YtacfanjejaellaaGreatJbo
import Derived.Test.YtacfanjejaellaaGreatHcQ
namespace Go.Proofs.YtacfanjejaellaaGreat

@[ext] structure H3 (n : Nat) where
  a : Fin n
  b : Fin n
  c : Fin n
  u : Oc n
  v : Oc n
  t : Oc n
section
variable {n : Nat} [NeZero n]
def toH (n : Nat) [NeZero n] (X : Her) : H3 n := ⟨toF n (X.d 0), toF n (X.d 1), toF n (X.d 2), toO n (X.r 0), toO n (X.r 1), toO n (X.r 2)⟩
/-- The bilinear form of the norm, halved. -/
def odt (g h k : Fin n) (x y : Oc n) : Fin n := x.a0 * y.a0 - g * x.a1 * y.a1 - h * x.a2 * y.a2 + g * h * x.a3 * y.a3 - k * x.a4 * y.a4 + g * k * x.a5 * y.a5 + h * k * x.a6 * y.a6 - g * h * k * x.a7 * y.a7
theorem onm_odt (g h k : Fin n) (x : Oc n) : onm g h k x = odt g h k x x := by have _h : NeZero n := inferInstance; unfold onm odt; grind
theorem omul_re (g h k : Fin n) (x y : Oc n) : (omul g h k x (ocj y)).a0 = odt g h k x y := by unfold omul ocj odt; grind
def JC (g h k iv : Fin n) (X Y : H3 n) : H3 n :=
  ⟨X.a * Y.a + odt g h k X.t Y.t + odt g h k X.v Y.v, X.b * Y.b + odt g h k X.u Y.u + odt g h k X.t Y.t, X.c * Y.c + odt g h k X.v Y.v + odt g h k X.u Y.u,
   osc iv (oad (ocj (oad (omul g h k X.v Y.t) (omul g h k Y.v X.t))) (oad (osc (X.b + X.c) Y.u) (osc (Y.b + Y.c) X.u))),
   osc iv (oad (ocj (oad (omul g h k X.t Y.u) (omul g h k Y.t X.u))) (oad (osc (X.c + X.a) Y.v) (osc (Y.c + Y.a) X.v))),
   osc iv (oad (ocj (oad (omul g h k X.u Y.v) (omul g h k Y.u X.v))) (oad (osc (X.a + X.b) Y.t) (osc (Y.a + Y.b) X.t)))⟩
def AC (g h k : Fin n) (X : H3 n) : H3 n :=
  ⟨X.b * X.c - onm g h k X.u, X.c * X.a - onm g h k X.v, X.a * X.b - onm g h k X.t,
   oad (ocj (omul g h k X.v X.t)) (osc (-X.a) X.u), oad (ocj (omul g h k X.t X.u)) (osc (-X.b) X.v), oad (ocj (omul g h k X.u X.v)) (osc (-X.c) X.t)⟩
def TC (X : H3 n) : Fin n := X.a + X.b + X.c
def SC (X : H3 n) (m : Fin n) (Y : H3 n) : H3 n := ⟨X.a + m * Y.a, X.b + m * Y.b, X.c + m * Y.c, oad X.u (osc m Y.u), oad X.v (osc m Y.v), oad X.t (osc m Y.t)⟩
def MC (m : Fin n) (X : H3 n) : H3 n := ⟨m * X.a, m * X.b, m * X.c, osc m X.u, osc m X.v, osc m X.t⟩
/-! ### Entries -/
def ore (c : Fin n) : Oc n := ⟨c, 0, 0, 0, 0, 0, 0, 0⟩
theorem toO_one {p c : Int} {m : Nat} (hp : p = n) (hm : 0 < m) : toO n (scaleL p (oneL m 0) c) = ore (toF n c) := by
  rw [toO_scale hp]
  have h : ∀ i, i ≠ 0 → toF n ((oneL m 0).getD i 0) = 0 := fun i hi => by
    unfold oneL
    rw [List.getD_eq_getElem?_getD, List.getElem?_set_ne (Ne.symm hi), List.getElem?_replicate]
    split <;> simp [toF_zero]
  have h0 : toF n ((oneL m 0).getD 0 0) = 1 := by
    unfold oneL
    rw [List.getD_eq_getElem?_getD, List.getElem?_set_self (by simpa using hm)]
    exact toF_one n
  unfold osc toO ore
  simp only [h0, h 1 (by decide), h 2 (by decide), h 3 (by decide), h 4 (by decide), h 5 (by decide), h 6 (by decide), h 7 (by decide)]
  apply Oc.ext <;> grind
theorem toO_zeros {m : Nat} : toO n (List.replicate m 0) = ore 0 := by
  have h : ∀ i, toF n ((List.replicate m (0 : Int)).getD i 0) = 0 := fun i => by
    rw [List.getD_eq_getElem?_getD, List.getElem?_replicate]
    split <;> simp [toF_zero]
  unfold toO ore
  simp only [h]
theorem getD_toO {xs : List Int} : toF n (xs.getD 0 0) = (toO n xs).a0 := rfl
theorem toO_eop {p : Int} {st : List Int} {X Y : Her} {i j : Nat} (hp : p = n) (hp1 : 2 ≤ p) (hst : st.length ≤ 3) (hX : isH p (sz st.length) X = true) (hY : isH p (sz st.length) Y = true) (hi : i < 3) (hj : j < 3) :
    toO n (eopH p st X Y i j) = oad (oad (omul (gam n st 0) (gam n st 1) (gam n st 2) (toO n (entryH p (sz st.length) X i 0)) (toO n (entryH p (sz st.length) Y 0 j))) (omul (gam n st 0) (gam n st 1) (gam n st 2) (toO n (entryH p (sz st.length) X i 1)) (toO n (entryH p (sz st.length) Y 1 j)))) (omul (gam n st 0) (gam n st 1) (gam n st 2) (toO n (entryH p (sz st.length) X i 2)) (toO n (entryH p (sz st.length) Y 2 j))) := by
  have ex : ∀ k, k < 3 → Ev p (sz st.length) (entryH p (sz st.length) X i k) := fun k hk => entryH_ev hp1 hX hi hk
  have ey : ∀ k, k < 3 → Ev p (sz st.length) (entryH p (sz st.length) Y k j) := fun k hk => entryH_ev hp1 hY hk hj
  have em : ∀ k, k < 3 → Ev p (sz st.length) (mulL p st (entryH p (sz st.length) X i k) (entryH p (sz st.length) Y k j)) := fun k hk => mulL_ev (by omega) (ex k hk) (ey k hk)
  have ez : Ev p (sz st.length) (List.replicate (sz st.length) 0) := Ev.zero (by omega)
  have e1 := ez.plus (k := 1) (by omega) (em 0 (by omega))
  have e2 := e1.plus (k := 1) (by omega) (em 1 (by omega))
  unfold eopH
  rw [toO_plus hp (by rw [(em 2 (by omega)).1, e2.1]), toO_plus hp (by rw [(em 1 (by omega)).1, e1.1]), toO_plus hp (by rw [(em 0 (by omega)).1, ez.1]),
    toO_mul hp hst (ex 0 (by omega)).1 (ey 0 (by omega)).1, toO_mul hp hst (ex 1 (by omega)).1 (ey 1 (by omega)).1, toO_mul hp hst (ex 2 (by omega)).1 (ey 2 (by omega)).1, toO_zeros, toF_one]
  unfold oad osc ore
  apply Oc.ext <;> grind
theorem toO_ent {p : Int} {m : Nat} {X : Her} (hp : p = n) (hm : 0 < m) :
    toO n (entryH p m X 0 0) = ore (toH n X).a ∧ toO n (entryH p m X 1 1) = ore (toH n X).b ∧ toO n (entryH p m X 2 2) = ore (toH n X).c ∧
    toO n (entryH p m X 1 2) = (toH n X).u ∧ toO n (entryH p m X 2 1) = ocj (toH n X).u ∧ toO n (entryH p m X 2 0) = (toH n X).v ∧ toO n (entryH p m X 0 2) = ocj (toH n X).v ∧
    toO n (entryH p m X 0 1) = (toH n X).t ∧ toO n (entryH p m X 1 0) = ocj (toH n X).t :=
  ⟨toO_one hp hm, toO_one hp hm, toO_one hp hm, rfl, toO_conj hp, rfl, toO_conj hp, rfl, toO_conj hp⟩
theorem toO_half {p : Int} {st : List Int} {X Y : Her} {i j : Nat} (hp : p = n) (hp1 : 2 ≤ p) (hX : isH p (sz st.length) X = true) (hY : isH p (sz st.length) Y = true) (hi : i < 3) (hj : j < 3) :
    toO n (halfH p st X Y i j) = osc (toF n (invL p 2)) (oad (toO n (eopH p st X Y i j)) (toO n (eopH p st Y X i j))) := by
  unfold halfH
  rw [toO_scale hp, toO_plus hp (by rw [(eopH_ev hp1 hX hY hi hj).1, (eopH_ev hp1 hY hX hi hj).1]), toF_one]
  congr 1
  unfold oad osc
  apply Oc.ext <;> grind
theorem toH_jordan {p : Int} {st : List Int} {X Y : Her} (hp : p = n) (hp1 : 2 ≤ p) (hst : st.length ≤ 3) (hX : isH p (sz st.length) X = true) (hY : isH p (sz st.length) Y = true) (hiv : 2 * toF n (invL p 2) = 1) :
    toH n (jordanH p st X Y) = JC (gam n st 0) (gam n st 1) (gam n st 2) (toF n (invL p 2)) (toH n X) (toH n Y) := by
  have hm : 0 < sz st.length := Nat.pow_pos (by decide)
  have H : ∀ i j, i < 3 → j < 3 → toO n (halfH p st X Y i j) = _ := fun i j hi hj => toO_half (n := n) hp hp1 hX hY hi hj
  obtain ⟨x00, x11, x22, x12, x21, x20, x02, x01, x10⟩ := toO_ent (n := n) (p := p) (m := sz st.length) (X := X) hp hm
  obtain ⟨y00, y11, y22, y12, y21, y20, y02, y01, y10⟩ := toO_ent (n := n) (p := p) (m := sz st.length) (X := Y) hp hm
  have e : ∀ i j, i < 3 → j < 3 → toO n (eopH p st X Y i j) = _ := fun i j hi hj => toO_eop (n := n) hp hp1 hst hX hY hi hj
  have f : ∀ i j, i < 3 → j < 3 → toO n (eopH p st Y X i j) = _ := fun i j hi hj => toO_eop (n := n) hp hp1 hst hY hX hi hj
  have h00 := H 0 0 (by omega) (by omega)
  have h11 := H 1 1 (by omega) (by omega)
  have h22 := H 2 2 (by omega) (by omega)
  have h12 := H 1 2 (by omega) (by omega)
  have h20 := H 2 0 (by omega) (by omega)
  have h01 := H 0 1 (by omega) (by omega)
  rw [e 0 0 (by omega) (by omega), f 0 0 (by omega) (by omega), x00, x01, x02, y00, y10, y20, y01, y02, x10, x20] at h00
  rw [e 1 1 (by omega) (by omega), f 1 1 (by omega) (by omega), x10, x11, x12, y01, y11, y21, y10, y12, x01, x21] at h11
  rw [e 2 2 (by omega) (by omega), f 2 2 (by omega) (by omega), x20, x21, x22, y02, y12, y22, y20, y21, x02, x12] at h22
  rw [e 1 2 (by omega) (by omega), f 1 2 (by omega) (by omega), x10, x11, x12, y02, y12, y22, y10, y11, x02, x22] at h12
  rw [e 2 0 (by omega) (by omega), f 2 0 (by omega) (by omega), x20, x21, x22, y00, y10, y20, y21, y22, x00, x10] at h20
  rw [e 0 1 (by omega) (by omega), f 0 1 (by omega) (by omega), x00, x01, x02, y01, y11, y21, y00, y02, x11, x21] at h01
  obtain ⟨iv, hv⟩ : ∃ z, z = toF n (invL p 2) := ⟨_, rfl⟩
  rw [← hv] at hiv h00 h11 h22 h12 h20 h01 ⊢
  have ed : toH n (jordanH p st X Y) = ⟨(toO n (halfH p st X Y 0 0)).a0, (toO n (halfH p st X Y 1 1)).a0, (toO n (halfH p st X Y 2 2)).a0, toO n (halfH p st X Y 1 2), toO n (halfH p st X Y 2 0), toO n (halfH p st X Y 0 1)⟩ := rfl
  rw [ed, h00, h11, h22, h12, h20, h01]
  clear ed h00 h11 h22 h12 h20 h01 e f H
  generalize toH n X = A
  generalize toH n Y = B
  generalize gam n st 0 = g; generalize gam n st 1 = h; generalize gam n st 2 = k
  clear x00 x11 x22 x12 x21 x20 x02 x01 x10 y00 y11 y22 y12 y21 y20 y02 y01 y10 hX hY hv
  unfold JC
  apply H3.ext
  · unfold osc oad omul ocj ore odt; grind
  · unfold osc oad omul ocj ore odt; grind
  · unfold osc oad omul ocj ore odt; grind
  · unfold osc oad omul ocj ore; apply Oc.ext <;> grind
  · unfold osc oad omul ocj ore; apply Oc.ext <;> grind
  · unfold osc oad omul ocj ore; apply Oc.ext <;> grind
end
end Go.Proofs.YtacfanjejaellaaGreat
