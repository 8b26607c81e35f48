/- Texts joined for a claim: OctK, OctL, OctN. -/
import Derived.Test.YtacfanjejaellaaGreatJbn
/-
  The cross of matrices over octonions modulo n, and the identities (A), (B) of the adjoint and the cross.
-/
namespace Go.Proofs.YtacfanjejaellaaGreat

section
variable {n : Nat} [NeZero n] (g h k : Fin n)
def XC (X Y : H3 n) : H3 n :=
  ⟨X.b * Y.c + Y.b * X.c - 2 * odt g h k X.u Y.u, X.c * Y.a + Y.c * X.a - 2 * odt g h k X.v Y.v, X.a * Y.b + Y.a * X.b - 2 * odt g h k X.t Y.t,
   oad (ocj (oad (omul g h k X.v Y.t) (omul g h k Y.v X.t))) (oad (osc (-X.a) Y.u) (osc (-Y.a) X.u)),
   oad (ocj (oad (omul g h k X.t Y.u) (omul g h k Y.t X.u))) (oad (osc (-X.b) Y.v) (osc (-Y.b) X.v)),
   oad (ocj (oad (omul g h k X.u Y.v) (omul g h k Y.u X.v))) (oad (osc (-X.c) Y.t) (osc (-Y.c) X.t))⟩
def FC (X Y : H3 n) : Fin n := X.a * Y.a + X.b * Y.b + X.c * Y.c + 2 * (odt g h k X.u Y.u + odt g h k X.v Y.v + odt g h k X.t Y.t)
def NC (X : H3 n) : Fin n := X.a * X.b * X.c + 2 * odt g h k X.u (omul g h k (ocj X.t) (ocj X.v)) - X.a * odt g h k X.u X.u - X.b * odt g h k X.v X.v - X.c * odt g h k X.t X.t
/-- The rows turned. -/
def rot (X : H3 n) : H3 n := ⟨X.b, X.c, X.a, X.v, X.t, X.u⟩
theorem XC_rot (X Y : H3 n) : XC g h k (rot X) (rot Y) = rot (XC g h k X Y) := rfl
theorem cyc (x y z : Oc n) : odt g h k x (omul g h k (ocj y) (ocj z)) = odt g h k y (omul g h k (ocj z) (ocj x)) := by unfold odt omul ocj; grind
theorem XA_a (X Y : H3 n) : (XC g h k (AC g h k X) (XC g h k X Y)).a = NC g h k X * Y.a + FC g h k (AC g h k X) Y * X.a := by
  obtain ⟨a, b, c, u, v, t⟩ := X
  obtain ⟨a', b', c', u', v', t'⟩ := Y
  simp only [XC, AC, NC, FC, onm_odt, ocj_oad, ocj_osc, ocj_mul, ocj_ocj, omul_addl, omul_addr, omul_oscl, omul_oscr, odt_addl, odt_addr, odt_oscl, odt_oscr]
  have f1 := odt_mulr g h k (ocj t) (ocj t') (ocj v)
  have f2 := odt_mull g h k (ocj v) (ocj v') (ocj t)
  simp only [odt_cj] at f1 f2
  have f3 := odt_comm g h k (omul g h k (ocj t) (ocj v)) u'
  have f4 := odt_comm g h k (omul g h k (ocj t) (ocj v)) u
  have f5 := odt_comm g h k (omul g h k (ocj u) (ocj t)) v'
  have f6 := odt_comm g h k (omul g h k (ocj v) (ocj u)) t'
  have f7 := cyc g h k v' u t
  have f8 := cyc g h k t' v u
  have f9 := cyc g h k v u t'
  grind
theorem XA_u (X Y : H3 n) : (XC g h k (AC g h k X) (XC g h k X Y)).u = oad (osc (NC g h k X) Y.u) (osc (FC g h k (AC g h k X) Y) X.u) := by
  obtain ⟨a, b, c, u, v, t⟩ := X
  obtain ⟨a', b', c', u', v', t'⟩ := Y
  simp only [XC, AC, NC, FC, onm_odt, ocj_oad, ocj_osc, ocj_mul, ocj_ocj, omul_addl, omul_addr, omul_oscl, omul_oscr, odt_addl, odt_addr, odt_oscl, odt_oscr]
  have f3 := odt_comm g h k (omul g h k (ocj t) (ocj v)) u'
  have f5 := odt_comm g h k (omul g h k (ocj u) (ocj t)) v'
  have f6 := odt_comm g h k (omul g h k (ocj v) (ocj u)) t'
  have f7 := cyc g h k v' u t
  have f8 := cyc g h k t' v u
  have f9 := cyc g h k v u t'
  have m1 := mo g h k u v' t
  have m2 := mo g h k u v t'
  have m3 := mo_lin g h k u u' v t
  have m4 := alt_l g h k u t t'
  have m5 := alt_r g h k u v v'
  have m6 := alt_l1 g h k u t
  have m7 := alt_r1 g h k u v
  have m8 := alt_l1 g h k u' t
  have m9 := alt_r1 g h k u' v
  have c1 := odt_comm g h k t t'
  have c2 := odt_comm g h k v v'
  have c3 := odt_comm g h k u u'
  generalize omul g h k (omul g h k u v') (omul g h k t u) = P1 at *
  generalize omul g h k (omul g h k u v) (omul g h k t' u) = P2 at *
  generalize omul g h k (omul g h k u v) (omul g h k t u') = P3 at *
  generalize omul g h k (omul g h k u' v) (omul g h k t u) = P4 at *
  generalize omul g h k (omul g h k u v) (ocj v') = P5 at *
  generalize omul g h k (omul g h k u v') (ocj v) = P6 at *
  generalize omul g h k (omul g h k u v) (ocj v) = P7 at *
  generalize omul g h k (omul g h k u' v) (ocj v) = P8 at *
  generalize omul g h k (ocj t) (omul g h k t u) = P9 at *
  generalize omul g h k (ocj t) (omul g h k t u') = Q1 at *
  generalize omul g h k (ocj t') (omul g h k t u) = Q2 at *
  generalize omul g h k (ocj t) (omul g h k t' u) = Q3 at *
  rw [f3, f5, f7, f6, f8, f9]
  clear f3 f5 f6 f7 f8 f9 c1 c2 c3
  generalize omul g h k (ocj t) (ocj v) = C0 at *
  generalize omul g h k (ocj t) (ocj v') = C1 at *
  generalize omul g h k (ocj t') (ocj v) = C2 at *
  generalize odt g h k u C0 = s1 at *
  generalize odt g h k u' C0 = s2 at *
  generalize odt g h k u C1 = s3 at *
  generalize odt g h k u C2 = s4 at *
  generalize odt g h k u u = s5 at *
  generalize odt g h k u u' = s6 at *
  generalize odt g h k v v = s7 at *
  generalize odt g h k v v' = s8 at *
  generalize odt g h k t t = s9 at *
  generalize odt g h k t t' = s10 at *
  subst m1 m2 m6 m7 m8 m9
  apply Oc.ext
  · have q3 := congrArg Oc.a0 m3; have q4 := congrArg Oc.a0 m4; have q5 := congrArg Oc.a0 m5; clear m3 m4 m5; dsimp only [oad, osc] at q3 q4 q5 ⊢; grind
  · have q3 := congrArg Oc.a1 m3; have q4 := congrArg Oc.a1 m4; have q5 := congrArg Oc.a1 m5; clear m3 m4 m5; dsimp only [oad, osc] at q3 q4 q5 ⊢; grind
  · have q3 := congrArg Oc.a2 m3; have q4 := congrArg Oc.a2 m4; have q5 := congrArg Oc.a2 m5; clear m3 m4 m5; dsimp only [oad, osc] at q3 q4 q5 ⊢; grind
  · have q3 := congrArg Oc.a3 m3; have q4 := congrArg Oc.a3 m4; have q5 := congrArg Oc.a3 m5; clear m3 m4 m5; dsimp only [oad, osc] at q3 q4 q5 ⊢; grind
  · have q3 := congrArg Oc.a4 m3; have q4 := congrArg Oc.a4 m4; have q5 := congrArg Oc.a4 m5; clear m3 m4 m5; dsimp only [oad, osc] at q3 q4 q5 ⊢; grind
  · have q3 := congrArg Oc.a5 m3; have q4 := congrArg Oc.a5 m4; have q5 := congrArg Oc.a5 m5; clear m3 m4 m5; dsimp only [oad, osc] at q3 q4 q5 ⊢; grind
  · have q3 := congrArg Oc.a6 m3; have q4 := congrArg Oc.a6 m4; have q5 := congrArg Oc.a6 m5; clear m3 m4 m5; dsimp only [oad, osc] at q3 q4 q5 ⊢; grind
  · have q3 := congrArg Oc.a7 m3; have q4 := congrArg Oc.a7 m4; have q5 := congrArg Oc.a7 m5; clear m3 m4 m5; dsimp only [oad, osc] at q3 q4 q5 ⊢; grind
end
end Go.Proofs.YtacfanjejaellaaGreat
/-
  The identity (B) of the adjoint and the cross; (A) and (B) for whole matrices.
-/
namespace Go.Proofs.YtacfanjejaellaaGreat

section
variable {n : Nat} [NeZero n] (g h k : Fin n)
set_option maxRecDepth 100000 in
set_option maxHeartbeats 4000000 in
theorem mix4 (u u' p q : Oc n) : oad (omul g h k (omul g h k u' (omul g h k (ocj u) p)) q) (omul g h k p (omul g h k (omul g h k q (ocj u)) u')) =
    oad (oad (osc (2 * odt g h k u (omul g h k p q)) u') (osc (2 * odt g h k u u') (omul g h k p q))) (osc (-(2 * odt g h k u' (omul g h k p q))) u) := by
  unfold odt omul ocj oad osc
  apply Oc.ext
  · grind
  · grind
  · grind
  · grind
  · grind
  · grind
  · grind
  · grind
theorem odt3l (u t t' : Oc n) : odt g h k u (omul g h k (ocj t') (omul g h k t u)) = odt g h k u u * odt g h k t t' := by
  rw [odt_comm, odt_movl, ocj_ocj, odt_mulr]
theorem odt3r (u v v' : Oc n) : odt g h k u (omul g h k (omul g h k u v) (ocj v')) = odt g h k u u * odt g h k v v' := by
  rw [odt_comm, odt_movr, ocj_ocj, odt_mull]
theorem XB_a (X Y : H3 n) : (XC g h k X (XC g h k (AC g h k X) Y)).a = NC g h k X * Y.a + FC g h k X Y * (AC g h k X).a := by
  obtain ⟨a, b, c, u, v, t⟩ := X
  obtain ⟨a', b', c', u', v', t'⟩ := Y
  simp only [XC, AC, NC, FC, onm_odt, ocj_oad, ocj_osc, ocj_mul, ocj_ocj, omul_addl, omul_addr, omul_oscl, omul_oscr, odt_addl, odt_addr, odt_oscl, odt_oscr]
  have f1 := odt3l g h k u t t'
  have f2 := odt3r g h k u v v'
  have f3 := odt_comm g h k (omul g h k (ocj t) (ocj v)) u'
  have f5 := odt_comm g h k (omul g h k (ocj u) (ocj t)) v'
  have f6 := odt_comm g h k (omul g h k (ocj v) (ocj u)) t'
  have f7 := cyc g h k v' u t
  have f8 := cyc g h k t' v u
  have f9 := cyc g h k v u t'
  have f10 := alt_l1 g h k (ocj v') t
  have f11 := alt_r1 g h k (ocj t') v
  grind
end
end Go.Proofs.YtacfanjejaellaaGreat
/-
  (A) and (B) for whole matrices; the cross and the form are symmetric.
-/
namespace Go.Proofs.YtacfanjejaellaaGreat

section
variable {n : Nat} [NeZero n] (g h k : Fin n)
theorem XB_u (X Y : H3 n) : (XC g h k X (XC g h k (AC g h k X) Y)).u = oad (osc (NC g h k X) Y.u) (osc (FC g h k X Y) (AC g h k X).u) := by
  obtain ⟨a, b, c, u, v, t⟩ := X
  obtain ⟨a', b', c', u', v', t'⟩ := Y
  simp only [XC, AC, NC, FC, onm_odt, ocj_oad, ocj_osc, ocj_mul, ocj_ocj, omul_addl, omul_addr, omul_oscl, omul_oscr, odt_addl, odt_addr, odt_oscl, odt_oscr]
  have f3 := odt_comm g h k (omul g h k (ocj t) (ocj v)) u'
  have m3 := mix4 g h k u u' (ocj t) (ocj v)
  have m1 := alt_r g h k (omul g h k (ocj t) (ocj v)) v' v
  have m1b := alt_r1 g h k (ocj t) (ocj v)
  have m2 := alt_l g h k (omul g h k (ocj t) (ocj v)) t' t
  have m2b := alt_l1 g h k (ocj v) (ocj t)
  have m4 := alt_r g h k u v' v
  have m5 := alt_l g h k u t' t
  have m6 := alt_r1 g h k u' v
  have m7 := alt_l1 g h k u' t
  have m8 := alt_r1 g h k u v
  have m9 := alt_l1 g h k u t
  have c1 := odt_comm g h k t t'
  have c2 := odt_comm g h k v v'
  have c3 := odt_comm g h k u u'
  simp only [ocj_ocj, odt_cj, omul_oscl, omul_oscr] at m1 m1b m2 m2b m3
  rw [m1b] at m1
  rw [m2b] at m2
  simp only [omul_oscl, omul_oscr] at m1 m2
  rw [f3]
  clear f3 m1b m2b
  generalize omul g h k (omul g h k (omul g h k (ocj t) (ocj v)) v') (ocj v) = P1 at *
  generalize omul g h k (omul g h k u v') (ocj v) = P2 at *
  generalize omul g h k (omul g h k u' (omul g h k (ocj u) (ocj t))) (ocj v) = P3 at *
  generalize omul g h k (omul g h k u' v) (ocj v) = P4 at *
  generalize omul g h k (omul g h k u v) (ocj v) = P5 at *
  generalize omul g h k (ocj t) (omul g h k (omul g h k (ocj v) (ocj u)) u') = P6 at *
  generalize omul g h k (ocj t) (omul g h k t u') = P7 at *
  generalize omul g h k (ocj t) (omul g h k t' (omul g h k (ocj t) (ocj v))) = P8 at *
  generalize omul g h k (ocj t) (omul g h k t' u) = P9 at *
  generalize omul g h k (ocj t) (omul g h k t u) = Q1 at *
  generalize omul g h k (ocj t') (omul g h k t u) = Q2 at *
  generalize omul g h k (omul g h k u v) (ocj v') = Q3 at *
  generalize omul g h k (ocj t) (ocj v) = C0 at *
  generalize omul g h k (ocj t) (ocj v') = C1 at *
  generalize omul g h k (ocj t') (ocj v) = C2 at *
  rw [← c2] at m1 m4; rw [← c1] at m2 m5
  clear c1 c2 c3
  generalize odt g h k u C0 = s1 at *
  generalize odt g h k u' C0 = s2 at *
  generalize odt g h k u u = s5 at *
  generalize odt g h k u u' = s6 at *
  generalize odt g h k v v = s7 at *
  generalize odt g h k v v' = s8 at *
  generalize odt g h k t t = s9 at *
  generalize odt g h k t t' = s10 at *
  subst m6 m7 m8 m9
  apply Oc.ext
  · have q1 := congrArg Oc.a0 m1; have q2 := congrArg Oc.a0 m2; have q3 := congrArg Oc.a0 m3; have q4 := congrArg Oc.a0 m4; have q5 := congrArg Oc.a0 m5; clear m1 m2 m3 m4 m5; dsimp only [oad, osc] at q1 q2 q3 q4 q5 ⊢; grind
  · have q1 := congrArg Oc.a1 m1; have q2 := congrArg Oc.a1 m2; have q3 := congrArg Oc.a1 m3; have q4 := congrArg Oc.a1 m4; have q5 := congrArg Oc.a1 m5; clear m1 m2 m3 m4 m5; dsimp only [oad, osc] at q1 q2 q3 q4 q5 ⊢; grind
  · have q1 := congrArg Oc.a2 m1; have q2 := congrArg Oc.a2 m2; have q3 := congrArg Oc.a2 m3; have q4 := congrArg Oc.a2 m4; have q5 := congrArg Oc.a2 m5; clear m1 m2 m3 m4 m5; dsimp only [oad, osc] at q1 q2 q3 q4 q5 ⊢; grind
  · have q1 := congrArg Oc.a3 m1; have q2 := congrArg Oc.a3 m2; have q3 := congrArg Oc.a3 m3; have q4 := congrArg Oc.a3 m4; have q5 := congrArg Oc.a3 m5; clear m1 m2 m3 m4 m5; dsimp only [oad, osc] at q1 q2 q3 q4 q5 ⊢; grind
  · have q1 := congrArg Oc.a4 m1; have q2 := congrArg Oc.a4 m2; have q3 := congrArg Oc.a4 m3; have q4 := congrArg Oc.a4 m4; have q5 := congrArg Oc.a4 m5; clear m1 m2 m3 m4 m5; dsimp only [oad, osc] at q1 q2 q3 q4 q5 ⊢; grind
  · have q1 := congrArg Oc.a5 m1; have q2 := congrArg Oc.a5 m2; have q3 := congrArg Oc.a5 m3; have q4 := congrArg Oc.a5 m4; have q5 := congrArg Oc.a5 m5; clear m1 m2 m3 m4 m5; dsimp only [oad, osc] at q1 q2 q3 q4 q5 ⊢; grind
  · have q1 := congrArg Oc.a6 m1; have q2 := congrArg Oc.a6 m2; have q3 := congrArg Oc.a6 m3; have q4 := congrArg Oc.a6 m4; have q5 := congrArg Oc.a6 m5; clear m1 m2 m3 m4 m5; dsimp only [oad, osc] at q1 q2 q3 q4 q5 ⊢; grind
  · have q1 := congrArg Oc.a7 m1; have q2 := congrArg Oc.a7 m2; have q3 := congrArg Oc.a7 m3; have q4 := congrArg Oc.a7 m4; have q5 := congrArg Oc.a7 m5; clear m1 m2 m3 m4 m5; dsimp only [oad, osc] at q1 q2 q3 q4 q5 ⊢; grind
theorem AC_rot (X : H3 n) : AC g h k (rot X) = rot (AC g h k X) := by have _h : NeZero n := inferInstance; rfl
theorem NC_rot (X : H3 n) : NC g h k (rot X) = NC g h k X := by
  have e := cyc g h k X.u X.t X.v
  have e2 := cyc g h k X.v X.u X.t
  unfold NC rot
  dsimp only
  grind
theorem FC_rot (X Y : H3 n) : FC g h k (rot X) (rot Y) = FC g h k X Y := by unfold FC rot; dsimp only; grind
theorem XA (X Y : H3 n) : XC g h k (AC g h k X) (XC g h k X Y) = SC (MC (NC g h k X) Y) (FC g h k (AC g h k X) Y) X := by
  have r1 := XA_a g h k (rot X) (rot Y)
  have r2 := XA_a g h k (rot (rot X)) (rot (rot Y))
  have r3 := XA_u g h k (rot X) (rot Y)
  have r4 := XA_u g h k (rot (rot X)) (rot (rot Y))
  simp only [AC_rot, XC_rot, NC_rot, FC_rot] at r1 r2 r3 r4
  exact H3.ext (XA_a g h k X Y) r1 r2 (XA_u g h k X Y) r3 r4
theorem XB (X Y : H3 n) : XC g h k X (XC g h k (AC g h k X) Y) = SC (MC (NC g h k X) Y) (FC g h k X Y) (AC g h k X) := by
  have r1 := XB_a g h k (rot X) (rot Y)
  have r2 := XB_a g h k (rot (rot X)) (rot (rot Y))
  have r3 := XB_u g h k (rot X) (rot Y)
  have r4 := XB_u g h k (rot (rot X)) (rot (rot Y))
  simp only [AC_rot, XC_rot, NC_rot, FC_rot] at r1 r2 r3 r4
  exact H3.ext (XB_a g h k X Y) r1 r2 (XB_u g h k X Y) r3 r4
theorem XC_comm (X Y : H3 n) : XC g h k X Y = XC g h k Y X := by
  have e1 := odt_comm g h k X.u Y.u
  have e2 := odt_comm g h k X.v Y.v
  have e3 := odt_comm g h k X.t Y.t
  unfold XC
  apply H3.ext
  · dsimp only; grind
  · dsimp only; grind
  · dsimp only; grind
  · dsimp only [oad, osc, ocj]; apply Oc.ext <;> grind
  · dsimp only [oad, osc, ocj]; apply Oc.ext <;> grind
  · dsimp only [oad, osc, ocj]; apply Oc.ext <;> grind
theorem FC_comm (X Y : H3 n) : FC g h k X Y = FC g h k Y X := by
  have e1 := odt_comm g h k X.u Y.u
  have e2 := odt_comm g h k X.v Y.v
  have e3 := odt_comm g h k X.t Y.t
  unfold FC
  grind
/-- The cross and the form are symmetric in three places. -/
theorem FX_sym (X Y Z : H3 n) : FC g h k (XC g h k X Y) Z = FC g h k X (XC g h k Y Z) := by
  obtain ⟨a, b, c, u, v, t⟩ := X
  obtain ⟨a', b', c', u', v', t'⟩ := Y
  obtain ⟨a2, b2, c2, u2, v2, t2⟩ := Z
  simp only [XC, FC, ocj_oad, ocj_osc, ocj_mul, ocj_ocj, odt_addl, odt_addr, odt_oscl, odt_oscr]
  have e1 := cyc g h k u2 t' v
  have e2 := cyc g h k v t' u2
  have p1 := odt_comm g h k (omul g h k (ocj t') (ocj v)) u2
  have p2 := odt_comm g h k (omul g h k (ocj t) (ocj v')) u2
  have p3 := odt_comm g h k (omul g h k (ocj u') (ocj t)) v2
  have p4 := odt_comm g h k (omul g h k (ocj u) (ocj t')) v2
  have p5 := odt_comm g h k (omul g h k (ocj v') (ocj u)) t2
  have p6 := odt_comm g h k (omul g h k (ocj v) (ocj u')) t2
  have k1 := cyc g h k u2 t' v
  have k2 := cyc g h k t' v u2
  have k3 := cyc g h k u2 t v'
  have k4 := cyc g h k t v' u2
  have k5 := cyc g h k v2 u' t
  have k6 := cyc g h k u' t v2
  have k7 := cyc g h k v2 u t'
  have k8 := cyc g h k u t' v2
  have k9 := cyc g h k t2 v' u
  have l1 := cyc g h k v' u t2
  have l2 := cyc g h k t2 v u'
  have l3 := cyc g h k v u' t2
  have d1 := odt_comm g h k u u'
  have d2 := odt_comm g h k v v'
  have d3 := odt_comm g h k t t'
  have d4 := odt_comm g h k u' u2
  have d5 := odt_comm g h k v' v2
  have d6 := odt_comm g h k t' t2
  have d7 := odt_comm g h k u u2
  have d8 := odt_comm g h k v v2
  have d9 := odt_comm g h k t t2
  grind
end
end Go.Proofs.YtacfanjejaellaaGreat
