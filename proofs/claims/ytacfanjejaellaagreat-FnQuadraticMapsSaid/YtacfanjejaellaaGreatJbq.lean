/- Texts joined for a claim: OctI, OctJ, OctM. -/
import Derived.Test.YtacfanjejaellaaGreatOctH
import Derived.Test.YtacfanjejaellaaGreatHcT
import Derived.Test.YtacfanjejaellaaGreatJbi
/-
  Adjoints, sums, multiples, traces over octonions modulo n; points and idempotents.
-/
namespace Go.Proofs.YtacfanjejaellaaGreat

section
variable {n : Nat} [NeZero n]
theorem toF_norm {p : Int} {st x : List Int} (hp : p = n) (hp1 : 2 ≤ p) (hst : st.length ≤ 3) (hx : Ev p (sz st.length) x) : toF n (normL p st x) = onm (gam n st 0) (gam n st 1) (gam n st 2) (toO n x) := by
  unfold normL
  rw [getD_toO, toO_mul hp hst hx.1 (hx.conj (by omega)).1, toO_conj hp, omul_re, onm_odt]
theorem isH_rows {p : Int} {m : Nat} {X : Her} (h : isH p m X = true) : Ev p m (X.r 0) ∧ Ev p m (X.r 1) ∧ Ev p m (X.r 2) := by
  obtain ⟨a, b, c, u, v, t, rfl, _, _, _, _, _, _, eu, ev, et⟩ := isH_op h
  exact ⟨eu, ev, et⟩
theorem toH_sum {p k : Int} {m : Nat} {X Y : Her} (hp : p = n) (hX : isH p m X = true) (hY : isH p m Y = true) : toH n (sumH p X k Y) = SC (toH n X) (toF n k) (toH n Y) := by
  obtain ⟨a, b, c, u, v, t, rfl, _, _, _, _, _, _, eu, ev, et⟩ := isH_op hX
  obtain ⟨a', b', c', u', v', t', rfl, _, _, _, _, _, _, eu', ev', et'⟩ := isH_op hY
  have md : ∀ x y : Int, toF n ((x + k * y) % p) = toF n x + toF n k * toF n y := fun x y => by rw [hp, toF_mod, toF_add, toF_mul]
  unfold SC
  apply H3.ext
  · exact md a a'
  · exact md b b'
  · exact md c c'
  · exact toO_plus hp (eu'.1.trans eu.1.symm)
  · exact toO_plus hp (ev'.1.trans ev.1.symm)
  · exact toO_plus hp (et'.1.trans et.1.symm)
theorem toH_mult {p k : Int} {m : Nat} {X : Her} (hp : p = n) (hX : isH p m X = true) : toH n (multH p X k) = MC (toF n k) (toH n X) := by
  obtain ⟨a, b, c, u, v, t, rfl, _⟩ := isH_op hX
  have md : ∀ x : Int, toF n (x * k % p) = toF n k * toF n x := fun x => by rw [hp, toF_mod, toF_mul]; grind
  unfold MC
  apply H3.ext
  · exact md a
  · exact md b
  · exact md c
  · exact toO_scale hp
  · exact toO_scale hp
  · exact toO_scale hp
theorem toF_inj {p a b : Int} (hp : p = n) (ha : 0 ≤ a ∧ a < p) (hb : 0 ≤ b ∧ b < p) (h : toF n a = toF n b) : a = b := by
  rw [toF_eq, ← hp, Int.emod_eq_of_lt ha.1 ha.2, Int.emod_eq_of_lt hb.1 hb.2] at h
  exact h
theorem toH_inj {p : Int} {m : Nat} {X Y : Her} (hp : p = n) (hm : m ≤ 8) (hX : isH p m X = true) (hY : isH p m Y = true) (h : toH n X = toH n Y) : X = Y := by
  obtain ⟨a, b, c, u, v, t, rfl, h1, h2, h3, h4, h5, h6, eu, ev, et⟩ := isH_op hX
  obtain ⟨a', b', c', u', v', t', rfl, k1, k2, k3, k4, k5, k6, eu', ev', et'⟩ := isH_op hY
  unfold toH at h
  simp only [H3.mk.injEq] at h
  obtain ⟨g1, g2, g3, g4, g5, g6⟩ := h
  have q1 : a = a' := toF_inj hp ⟨h1, h2⟩ ⟨k1, k2⟩ g1
  have q2 : b = b' := toF_inj hp ⟨h3, h4⟩ ⟨k3, k4⟩ g2
  have q3 : c = c' := toF_inj hp ⟨h5, h6⟩ ⟨k5, k6⟩ g3
  have q4 : u = u' := toO_inj hp hm eu eu' g4
  have q5 : v = v' := toO_inj hp hm ev ev' g5
  have q6 : t = t' := toO_inj hp hm et et' g6
  rw [q1, q2, q3, q4, q5, q6]
def one3 : H3 n := ⟨1, 1, 1, ore 0, ore 0, ore 0⟩
theorem sq_id (g h k iv : Fin n) (hiv : 2 * iv = 1) (X : H3 n) : JC g h k iv X X = SC (SC (AC g h k X) (TC X) X) (-(TC (AC g h k X))) one3 := by
  unfold JC SC AC TC one3 ore
  apply H3.ext
  · unfold odt onm; grind
  · unfold odt onm; grind
  · unfold odt onm; grind
  · unfold oad osc ocj omul; apply Oc.ext <;> grind
  · unfold oad osc ocj omul; apply Oc.ext <;> grind
  · unfold oad osc ocj omul; apply Oc.ext <;> grind
theorem AC_mult (g h k m : Fin n) (X : H3 n) : AC g h k (MC m X) = MC (m * m) (AC g h k X) := by
  unfold AC MC
  apply H3.ext
  · unfold onm osc; grind
  · unfold onm osc; grind
  · unfold onm osc; grind
  · unfold oad osc ocj omul; apply Oc.ext <;> grind
  · unfold oad osc ocj omul; apply Oc.ext <;> grind
  · unfold oad osc ocj omul; apply Oc.ext <;> grind
end
end Go.Proofs.YtacfanjejaellaaGreat
/-
  Octonions modulo n: bilinearity, the laws of alternation, Moufang's law, and the cyclic real part.
-/
namespace Go.Proofs.YtacfanjejaellaaGreat

section
variable {n : Nat} [NeZero n] (g h k : Fin n)
theorem omul_addl (x y z : Oc n) : omul g h k (oad x y) z = oad (omul g h k x z) (omul g h k y z) := by unfold omul oad; apply Oc.ext <;> grind
theorem omul_addr (x y z : Oc n) : omul g h k z (oad x y) = oad (omul g h k z x) (omul g h k z y) := by unfold omul oad; apply Oc.ext <;> grind
theorem omul_oscl (c : Fin n) (x y : Oc n) : omul g h k (osc c x) y = osc c (omul g h k x y) := by unfold omul osc; apply Oc.ext <;> grind
theorem omul_oscr (c : Fin n) (x y : Oc n) : omul g h k x (osc c y) = osc c (omul g h k x y) := by unfold omul osc; apply Oc.ext <;> grind
theorem ocj_oad (x y : Oc n) : ocj (oad x y) = oad (ocj x) (ocj y) := by unfold ocj oad; apply Oc.ext <;> grind
theorem ocj_osc (c : Fin n) (x : Oc n) : ocj (osc c x) = osc c (ocj x) := by unfold ocj osc; apply Oc.ext <;> grind
theorem ocj_ocj (x : Oc n) : ocj (ocj x) = x := by unfold ocj; apply Oc.ext <;> grind
theorem odt_addl (x y z : Oc n) : odt g h k (oad x y) z = odt g h k x z + odt g h k y z := by unfold odt oad; grind
theorem odt_addr (x y z : Oc n) : odt g h k z (oad x y) = odt g h k z x + odt g h k z y := by unfold odt oad; grind
theorem odt_oscl (c : Fin n) (x y : Oc n) : odt g h k (osc c x) y = c * odt g h k x y := by unfold odt osc; grind
theorem odt_oscr (c : Fin n) (x y : Oc n) : odt g h k x (osc c y) = c * odt g h k x y := by unfold odt osc; grind
theorem odt_comm (x y : Oc n) : odt g h k x y = odt g h k y x := by unfold odt; grind
theorem odt_cj (x y : Oc n) : odt g h k (ocj x) (ocj y) = odt g h k x y := by unfold odt ocj; grind
theorem odt_mulr (x y z : Oc n) : odt g h k (omul g h k x z) (omul g h k y z) = odt g h k z z * odt g h k x y := by unfold odt omul; grind
theorem odt_mull (x y z : Oc n) : odt g h k (omul g h k z x) (omul g h k z y) = odt g h k z z * odt g h k x y := by unfold odt omul; grind
/-- The form may be moved over a factor. -/
theorem odt_movl (x y z : Oc n) : odt g h k (omul g h k x y) z = odt g h k y (omul g h k (ocj x) z) := by unfold odt omul ocj; grind
theorem odt_movr (x y z : Oc n) : odt g h k (omul g h k x y) z = odt g h k x (omul g h k z (ocj y)) := by unfold odt omul ocj; grind
/-- The laws of alternation, linear in each place. -/
theorem alt_r (x y z : Oc n) : oad (omul g h k (omul g h k x y) (ocj z)) (omul g h k (omul g h k x z) (ocj y)) = osc (2 * odt g h k y z) x := by unfold odt omul ocj oad osc; apply Oc.ext <;> grind
theorem alt_l (x y z : Oc n) : oad (omul g h k (ocj z) (omul g h k y x)) (omul g h k (ocj y) (omul g h k z x)) = osc (2 * odt g h k y z) x := by unfold odt omul ocj oad osc; apply Oc.ext <;> grind
theorem alt_r1 (x y : Oc n) : omul g h k (omul g h k x y) (ocj y) = osc (odt g h k y y) x := by unfold odt omul ocj osc; apply Oc.ext <;> grind
theorem alt_l1 (x y : Oc n) : omul g h k (ocj y) (omul g h k y x) = osc (odt g h k y y) x := by unfold odt omul ocj osc; apply Oc.ext <;> grind
end
end Go.Proofs.YtacfanjejaellaaGreat
/-
  Moufang's law of octonions modulo n, and its linear form.
-/
namespace Go.Proofs.YtacfanjejaellaaGreat

section
variable {n : Nat} [NeZero n] (g h k : Fin n)
set_option maxHeartbeats 4000000 in
theorem mo (u v w : Oc n) : omul g h k (omul g h k u v) (omul g h k w u) = oad (osc (2 * odt g h k u (omul g h k (ocj w) (ocj v))) u) (osc (-(odt g h k u u)) (omul g h k (ocj w) (ocj v))) := by
  unfold odt omul ocj oad osc
  apply Oc.ext
  · grind
  · grind
  · grind
  · grind
  · grind
  · grind
  · grind
  · grind
theorem mo_lin (u u' v w : Oc n) : oad (omul g h k (omul g h k u v) (omul g h k w u')) (omul g h k (omul g h k u' v) (omul g h k w u)) =
    oad (oad (osc (2 * odt g h k u (omul g h k (ocj w) (ocj v))) u') (osc (2 * odt g h k u' (omul g h k (ocj w) (ocj v))) u)) (osc (-(2 * odt g h k u u')) (omul g h k (ocj w) (ocj v))) := by
  have h1 := mo g h k (oad u u') v w
  have h2 := mo g h k u v w
  have h3 := mo g h k u' v w
  simp only [omul_addl, omul_addr, odt_addl, odt_addr] at h1
  rw [h2, h3] at h1
  have hc := odt_comm g h k u u'
  generalize omul g h k (omul g h k u v) (omul g h k w u') = A at *
  generalize omul g h k (omul g h k u' v) (omul g h k w u) = B at *
  generalize omul g h k (ocj w) (ocj v) = c at *
  generalize odt g h k u c = s1 at *
  generalize odt g h k u' c = s2 at *
  generalize odt g h k u u' = s3 at *
  generalize odt g h k u' u = s4 at *
  generalize odt g h k u u = s5 at *
  generalize odt g h k u' u' = s6 at *
  subst hc
  have e0 := congrArg Oc.a0 h1; have e1 := congrArg Oc.a1 h1; have e2 := congrArg Oc.a2 h1; have e3 := congrArg Oc.a3 h1
  have e4 := congrArg Oc.a4 h1; have e5 := congrArg Oc.a5 h1; have e6 := congrArg Oc.a6 h1; have e7 := congrArg Oc.a7 h1
  clear h1 h2 h3
  dsimp only [oad, osc] at e0 e1 e2 e3 e4 e5 e6 e7 ⊢
  apply Oc.ext
  · clear e1 e2 e3 e4 e5 e6 e7; dsimp only; grind
  · clear e0 e2 e3 e4 e5 e6 e7; dsimp only; grind
  · clear e0 e1 e3 e4 e5 e6 e7; dsimp only; grind
  · clear e0 e1 e2 e4 e5 e6 e7; dsimp only; grind
  · clear e0 e1 e2 e3 e5 e6 e7; dsimp only; grind
  · clear e0 e1 e2 e3 e4 e6 e7; dsimp only; grind
  · clear e0 e1 e2 e3 e4 e5 e7; dsimp only; grind
  · clear e0 e1 e2 e3 e4 e5 e6; dsimp only; grind
end
end Go.Proofs.YtacfanjejaellaaGreat
