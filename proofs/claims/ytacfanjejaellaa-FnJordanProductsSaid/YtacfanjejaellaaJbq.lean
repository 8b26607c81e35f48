/- Texts joined for a claim: OctJ, OctM, OctK, OctL. -/
import Derived.Test.YtacfanjejaellaaJbp
/-
  Octonions modulo n: bilinearity, the laws of alternation, Moufang's law, and the cyclic real part.
-/
namespace Go.Proofs.Ytacfanjejaellaa

section
variable {n : Nat} [NeZero n] (g h k : Fin n)
theorem omul_addl (x y z : Oc n) : omul g h k (oad x y) z = oad (omul g h k x z) (omul g h k y z) := by unfold omul oad; apply Oc.ext <;> grind
theorem omul_addr (x y z : Oc n) : omul g h k z (oad x y) = oad (omul g h k z x) (omul g h k z y) := by unfold omul oad; apply Oc.ext <;> grind
theorem omul_oscl (c : Fin n) (x y : Oc n) : omul g h k (osc c x) y = osc c (omul g h k x y) := by unfold omul osc; apply Oc.ext <;> grind
theorem omul_oscr (c : Fin n) (x y : Oc n) : omul g h k x (osc c y) = osc c (omul g h k x y) := by unfold omul osc; apply Oc.ext <;> grind
theorem ocj_oad (x y : Oc n) : ocj (oad x y) = oad (ocj x) (ocj y) := by unfold ocj oad; apply Oc.ext <;> grind
theorem ocj_osc (c : Fin n) (x : Oc n) : ocj (osc c x) = osc c (ocj x) := by unfold ocj osc; apply Oc.ext <;> grind
theorem ocj_ocj (x : Oc n) : ocj (ocj x) = x := by unfold ocj; apply Oc.ext <;> grind
theorem odt_addl (x y z : Oc n) : odt g h k (oad x y) z = odt g h k x z + odt g h k y z := by unfold odt oad; grind
theorem odt_addr (x y z : Oc n) : odt g h k z (oad x y) = odt g h k z x + odt g h k z y := by unfold odt oad; grind
theorem odt_oscl (c : Fin n) (x y : Oc n) : odt g h k (osc c x) y = c * odt g h k x y := by unfold odt osc; grind
theorem odt_oscr (c : Fin n) (x y : Oc n) : odt g h k x (osc c y) = c * odt g h k x y := by unfold odt osc; grind
theorem odt_comm (x y : Oc n) : odt g h k x y = odt g h k y x := by unfold odt; grind
theorem odt_cj (x y : Oc n) : odt g h k (ocj x) (ocj y) = odt g h k x y := by unfold odt ocj; grind
theorem odt_cjr (x y : Oc n) : odt g h k x (ocj y) = odt g h k (ocj x) y := by unfold odt ocj; grind
theorem odt_mulr (x y z : Oc n) : odt g h k (omul g h k x z) (omul g h k y z) = odt g h k z z * odt g h k x y := by unfold odt omul; grind
theorem odt_mull (x y z : Oc n) : odt g h k (omul g h k z x) (omul g h k z y) = odt g h k z z * odt g h k x y := by unfold odt omul; grind
/-- The form may be moved over a factor. -/
theorem odt_movl (x y z : Oc n) : odt g h k (omul g h k x y) z = odt g h k y (omul g h k (ocj x) z) := by unfold odt omul ocj; grind
theorem odt_movr (x y z : Oc n) : odt g h k (omul g h k x y) z = odt g h k x (omul g h k z (ocj y)) := by unfold odt omul ocj; grind
/-- The laws of alternation, linear in each place. -/
theorem alt_r (x y z : Oc n) : oad (omul g h k (omul g h k x y) (ocj z)) (omul g h k (omul g h k x z) (ocj y)) = osc (2 * odt g h k y z) x := by unfold odt omul ocj oad osc; apply Oc.ext <;> grind
theorem alt_l (x y z : Oc n) : oad (omul g h k (ocj z) (omul g h k y x)) (omul g h k (ocj y) (omul g h k z x)) = osc (2 * odt g h k y z) x := by unfold odt omul ocj oad osc; apply Oc.ext <;> grind
theorem alt_r1 (x y : Oc n) : omul g h k (omul g h k x y) (ocj y) = osc (odt g h k y y) x := by unfold odt omul ocj osc; apply Oc.ext <;> grind
theorem alt_l1 (x y : Oc n) : omul g h k (ocj y) (omul g h k y x) = osc (odt g h k y y) x := by unfold odt omul ocj osc; apply Oc.ext <;> grind
end
end Go.Proofs.Ytacfanjejaellaa
/-
  Moufang's law of octonions modulo n, and its linear form.
-/
namespace Go.Proofs.Ytacfanjejaellaa

section
variable {n : Nat} [NeZero n] (g h k : Fin n)
set_option maxHeartbeats 4000000 in
theorem mo (u v w : Oc n) : omul g h k (omul g h k u v) (omul g h k w u) = oad (osc (2 * odt g h k u (omul g h k (ocj w) (ocj v))) u) (osc (-(odt g h k u u)) (omul g h k (ocj w) (ocj v))) := by
  unfold odt omul ocj oad osc
  apply Oc.ext
  · grind
  · grind
  · grind
  · grind
  · grind
  · grind
  · grind
  · grind
theorem mo_lin (u u' v w : Oc n) : oad (omul g h k (omul g h k u v) (omul g h k w u')) (omul g h k (omul g h k u' v) (omul g h k w u)) =
    oad (oad (osc (2 * odt g h k u (omul g h k (ocj w) (ocj v))) u') (osc (2 * odt g h k u' (omul g h k (ocj w) (ocj v))) u)) (osc (-(2 * odt g h k u u')) (omul g h k (ocj w) (ocj v))) := by
  have h1 := mo g h k (oad u u') v w
  have h2 := mo g h k u v w
  have h3 := mo g h k u' v w
  simp only [omul_addl, omul_addr, odt_addl, odt_addr] at h1
  rw [h2, h3] at h1
  have hc := odt_comm g h k u u'
  generalize omul g h k (omul g h k u v) (omul g h k w u') = A at *
  generalize omul g h k (omul g h k u' v) (omul g h k w u) = B at *
  generalize omul g h k (ocj w) (ocj v) = c at *
  generalize odt g h k u c = s1 at *
  generalize odt g h k u' c = s2 at *
  generalize odt g h k u u' = s3 at *
  generalize odt g h k u' u = s4 at *
  generalize odt g h k u u = s5 at *
  generalize odt g h k u' u' = s6 at *
  subst hc
  have e0 := congrArg Oc.a0 h1; have e1 := congrArg Oc.a1 h1; have e2 := congrArg Oc.a2 h1; have e3 := congrArg Oc.a3 h1
  have e4 := congrArg Oc.a4 h1; have e5 := congrArg Oc.a5 h1; have e6 := congrArg Oc.a6 h1; have e7 := congrArg Oc.a7 h1
  clear h1 h2 h3
  dsimp only [oad, osc] at e0 e1 e2 e3 e4 e5 e6 e7 ⊢
  apply Oc.ext
  · clear e1 e2 e3 e4 e5 e6 e7; dsimp only; grind
  · clear e0 e2 e3 e4 e5 e6 e7; dsimp only; grind
  · clear e0 e1 e3 e4 e5 e6 e7; dsimp only; grind
  · clear e0 e1 e2 e4 e5 e6 e7; dsimp only; grind
  · clear e0 e1 e2 e3 e5 e6 e7; dsimp only; grind
  · clear e0 e1 e2 e3 e4 e6 e7; dsimp only; grind
  · clear e0 e1 e2 e3 e4 e5 e7; dsimp only; grind
  · clear e0 e1 e2 e3 e4 e5 e6; dsimp only; grind
end
end Go.Proofs.Ytacfanjejaellaa
/-
  The cross of matrices over octonions modulo n, and the identities (A), (B) of the adjoint and the cross.
-/
namespace Go.Proofs.Ytacfanjejaellaa

section
variable {n : Nat} [NeZero n] (g h k : Fin n)
def XC (X Y : H3 n) : H3 n :=
  ⟨X.b * Y.c + Y.b * X.c - 2 * odt g h k X.u Y.u, X.c * Y.a + Y.c * X.a - 2 * odt g h k X.v Y.v, X.a * Y.b + Y.a * X.b - 2 * odt g h k X.t Y.t,
   oad (ocj (oad (omul g h k X.v Y.t) (omul g h k Y.v X.t))) (oad (osc (-X.a) Y.u) (osc (-Y.a) X.u)),
   oad (ocj (oad (omul g h k X.t Y.u) (omul g h k Y.t X.u))) (oad (osc (-X.b) Y.v) (osc (-Y.b) X.v)),
   oad (ocj (oad (omul g h k X.u Y.v) (omul g h k Y.u X.v))) (oad (osc (-X.c) Y.t) (osc (-Y.c) X.t))⟩
def FC (X Y : H3 n) : Fin n := X.a * Y.a + X.b * Y.b + X.c * Y.c + 2 * (odt g h k X.u Y.u + odt g h k X.v Y.v + odt g h k X.t Y.t)
def NC (X : H3 n) : Fin n := X.a * X.b * X.c + 2 * odt g h k X.u (omul g h k (ocj X.t) (ocj X.v)) - X.a * odt g h k X.u X.u - X.b * odt g h k X.v X.v - X.c * odt g h k X.t X.t
/-- The rows turned. -/
def rot (X : H3 n) : H3 n := ⟨X.b, X.c, X.a, X.v, X.t, X.u⟩
theorem XC_rot (X Y : H3 n) : XC g h k (rot X) (rot Y) = rot (XC g h k X Y) := rfl
theorem cyc (x y z : Oc n) : odt g h k x (omul g h k (ocj y) (ocj z)) = odt g h k y (omul g h k (ocj z) (ocj x)) := by unfold odt omul ocj; grind
theorem XA_a (X Y : H3 n) : (XC g h k (AC g h k X) (XC g h k X Y)).a = NC g h k X * Y.a + FC g h k (AC g h k X) Y * X.a := by
  obtain ⟨a, b, c, u, v, t⟩ := X
  obtain ⟨a', b', c', u', v', t'⟩ := Y
  simp only [XC, AC, NC, FC, onm_odt, ocj_oad, ocj_osc, ocj_mul, ocj_ocj, omul_addl, omul_addr, omul_oscl, omul_oscr, odt_addl, odt_addr, odt_oscl, odt_oscr]
  have f1 := odt_mulr g h k (ocj t) (ocj t') (ocj v)
  have f2 := odt_mull g h k (ocj v) (ocj v') (ocj t)
  simp only [odt_cj] at f1 f2
  have f3 := odt_comm g h k (omul g h k (ocj t) (ocj v)) u'
  have f4 := odt_comm g h k (omul g h k (ocj t) (ocj v)) u
  have f5 := odt_comm g h k (omul g h k (ocj u) (ocj t)) v'
  have f6 := odt_comm g h k (omul g h k (ocj v) (ocj u)) t'
  have f7 := cyc g h k v' u t
  have f8 := cyc g h k t' v u
  have f9 := cyc g h k v u t'
  grind
theorem XA_u (X Y : H3 n) : (XC g h k (AC g h k X) (XC g h k X Y)).u = oad (osc (NC g h k X) Y.u) (osc (FC g h k (AC g h k X) Y) X.u) := by
  obtain ⟨a, b, c, u, v, t⟩ := X
  obtain ⟨a', b', c', u', v', t'⟩ := Y
  simp only [XC, AC, NC, FC, onm_odt, ocj_oad, ocj_osc, ocj_mul, ocj_ocj, omul_addl, omul_addr, omul_oscl, omul_oscr, odt_addl, odt_addr, odt_oscl, odt_oscr]
  have f3 := odt_comm g h k (omul g h k (ocj t) (ocj v)) u'
  have f5 := odt_comm g h k (omul g h k (ocj u) (ocj t)) v'
  have f6 := odt_comm g h k (omul g h k (ocj v) (ocj u)) t'
  have f7 := cyc g h k v' u t
  have f8 := cyc g h k t' v u
  have f9 := cyc g h k v u t'
  have m1 := mo g h k u v' t
  have m2 := mo g h k u v t'
  have m3 := mo_lin g h k u u' v t
  have m4 := alt_l g h k u t t'
  have m5 := alt_r g h k u v v'
  have m6 := alt_l1 g h k u t
  have m7 := alt_r1 g h k u v
  have m8 := alt_l1 g h k u' t
  have m9 := alt_r1 g h k u' v
  have c1 := odt_comm g h k t t'
  have c2 := odt_comm g h k v v'
  have c3 := odt_comm g h k u u'
  generalize omul g h k (omul g h k u v') (omul g h k t u) = P1 at *
  generalize omul g h k (omul g h k u v) (omul g h k t' u) = P2 at *
  generalize omul g h k (omul g h k u v) (omul g h k t u') = P3 at *
  generalize omul g h k (omul g h k u' v) (omul g h k t u) = P4 at *
  generalize omul g h k (omul g h k u v) (ocj v') = P5 at *
  generalize omul g h k (omul g h k u v') (ocj v) = P6 at *
  generalize omul g h k (omul g h k u v) (ocj v) = P7 at *
  generalize omul g h k (omul g h k u' v) (ocj v) = P8 at *
  generalize omul g h k (ocj t) (omul g h k t u) = P9 at *
  generalize omul g h k (ocj t) (omul g h k t u') = Q1 at *
  generalize omul g h k (ocj t') (omul g h k t u) = Q2 at *
  generalize omul g h k (ocj t) (omul g h k t' u) = Q3 at *
  rw [f3, f5, f7, f6, f8, f9]
  clear f3 f5 f6 f7 f8 f9 c1 c2 c3
  generalize omul g h k (ocj t) (ocj v) = C0 at *
  generalize omul g h k (ocj t) (ocj v') = C1 at *
  generalize omul g h k (ocj t') (ocj v) = C2 at *
  generalize odt g h k u C0 = s1 at *
  generalize odt g h k u' C0 = s2 at *
  generalize odt g h k u C1 = s3 at *
  generalize odt g h k u C2 = s4 at *
  generalize odt g h k u u = s5 at *
  generalize odt g h k u u' = s6 at *
  generalize odt g h k v v = s7 at *
  generalize odt g h k v v' = s8 at *
  generalize odt g h k t t = s9 at *
  generalize odt g h k t t' = s10 at *
  subst m1 m2 m6 m7 m8 m9
  apply Oc.ext
  · have q3 := congrArg Oc.a0 m3; have q4 := congrArg Oc.a0 m4; have q5 := congrArg Oc.a0 m5; clear m3 m4 m5; dsimp only [oad, osc] at q3 q4 q5 ⊢; grind
  · have q3 := congrArg Oc.a1 m3; have q4 := congrArg Oc.a1 m4; have q5 := congrArg Oc.a1 m5; clear m3 m4 m5; dsimp only [oad, osc] at q3 q4 q5 ⊢; grind
  · have q3 := congrArg Oc.a2 m3; have q4 := congrArg Oc.a2 m4; have q5 := congrArg Oc.a2 m5; clear m3 m4 m5; dsimp only [oad, osc] at q3 q4 q5 ⊢; grind
  · have q3 := congrArg Oc.a3 m3; have q4 := congrArg Oc.a3 m4; have q5 := congrArg Oc.a3 m5; clear m3 m4 m5; dsimp only [oad, osc] at q3 q4 q5 ⊢; grind
  · have q3 := congrArg Oc.a4 m3; have q4 := congrArg Oc.a4 m4; have q5 := congrArg Oc.a4 m5; clear m3 m4 m5; dsimp only [oad, osc] at q3 q4 q5 ⊢; grind
  · have q3 := congrArg Oc.a5 m3; have q4 := congrArg Oc.a5 m4; have q5 := congrArg Oc.a5 m5; clear m3 m4 m5; dsimp only [oad, osc] at q3 q4 q5 ⊢; grind
  · have q3 := congrArg Oc.a6 m3; have q4 := congrArg Oc.a6 m4; have q5 := congrArg Oc.a6 m5; clear m3 m4 m5; dsimp only [oad, osc] at q3 q4 q5 ⊢; grind
  · have q3 := congrArg Oc.a7 m3; have q4 := congrArg Oc.a7 m4; have q5 := congrArg Oc.a7 m5; clear m3 m4 m5; dsimp only [oad, osc] at q3 q4 q5 ⊢; grind
end
end Go.Proofs.Ytacfanjejaellaa
/-
  The identity (B) of the adjoint and the cross; (A) and (B) for whole matrices.
-/
namespace Go.Proofs.Ytacfanjejaellaa

section
variable {n : Nat} [NeZero n] (g h k : Fin n)
set_option maxRecDepth 100000 in
set_option maxHeartbeats 4000000 in
theorem mix4 (u u' p q : Oc n) : oad (omul g h k (omul g h k u' (omul g h k (ocj u) p)) q) (omul g h k p (omul g h k (omul g h k q (ocj u)) u')) =
    oad (oad (osc (2 * odt g h k u (omul g h k p q)) u') (osc (2 * odt g h k u u') (omul g h k p q))) (osc (-(2 * odt g h k u' (omul g h k p q))) u) := by
  unfold odt omul ocj oad osc
  apply Oc.ext
  · grind
  · grind
  · grind
  · grind
  · grind
  · grind
  · grind
  · grind
theorem odt3l (u t t' : Oc n) : odt g h k u (omul g h k (ocj t') (omul g h k t u)) = odt g h k u u * odt g h k t t' := by
  rw [odt_comm, odt_movl, ocj_ocj, odt_mulr]
theorem odt3r (u v v' : Oc n) : odt g h k u (omul g h k (omul g h k u v) (ocj v')) = odt g h k u u * odt g h k v v' := by
  rw [odt_comm, odt_movr, ocj_ocj, odt_mull]
theorem XB_a (X Y : H3 n) : (XC g h k X (XC g h k (AC g h k X) Y)).a = NC g h k X * Y.a + FC g h k X Y * (AC g h k X).a := by
  obtain ⟨a, b, c, u, v, t⟩ := X
  obtain ⟨a', b', c', u', v', t'⟩ := Y
  simp only [XC, AC, NC, FC, onm_odt, ocj_oad, ocj_osc, ocj_mul, ocj_ocj, omul_addl, omul_addr, omul_oscl, omul_oscr, odt_addl, odt_addr, odt_oscl, odt_oscr]
  have f1 := odt3l g h k u t t'
  have f2 := odt3r g h k u v v'
  have f3 := odt_comm g h k (omul g h k (ocj t) (ocj v)) u'
  have f5 := odt_comm g h k (omul g h k (ocj u) (ocj t)) v'
  have f6 := odt_comm g h k (omul g h k (ocj v) (ocj u)) t'
  have f7 := cyc g h k v' u t
  have f8 := cyc g h k t' v u
  have f9 := cyc g h k v u t'
  have f10 := alt_l1 g h k (ocj v') t
  have f11 := alt_r1 g h k (ocj t') v
  grind
end
end Go.Proofs.Ytacfanjejaellaa
