/-
  (A) and (B) for whole matrices; the cross and the form are symmetric.
-/
import Derived.Test.YtacfanjejaellaaJbq
namespace Go.Proofs.Ytacfanjejaellaa

section
variable {n : Nat} [NeZero n] (g h k : Fin n)
theorem XB_u (X Y : H3 n) : (XC g h k X (XC g h k (AC g h k X) Y)).u = oad (osc (NC g h k X) Y.u) (osc (FC g h k X Y) (AC g h k X).u) := by
  obtain ⟨a, b, c, u, v, t⟩ := X
  obtain ⟨a', b', c', u', v', t'⟩ := Y
  simp only [XC, AC, NC, FC, onm_odt, ocj_oad, ocj_osc, ocj_mul, ocj_ocj, omul_addl, omul_addr, omul_oscl, omul_oscr, odt_addl, odt_addr, odt_oscl, odt_oscr]
  have f3 := odt_comm g h k (omul g h k (ocj t) (ocj v)) u'
  have m3 := mix4 g h k u u' (ocj t) (ocj v)
  have m1 := alt_r g h k (omul g h k (ocj t) (ocj v)) v' v
  have m1b := alt_r1 g h k (ocj t) (ocj v)
  have m2 := alt_l g h k (omul g h k (ocj t) (ocj v)) t' t
  have m2b := alt_l1 g h k (ocj v) (ocj t)
  have m4 := alt_r g h k u v' v
  have m5 := alt_l g h k u t' t
  have m6 := alt_r1 g h k u' v
  have m7 := alt_l1 g h k u' t
  have m8 := alt_r1 g h k u v
  have m9 := alt_l1 g h k u t
  have c1 := odt_comm g h k t t'
  have c2 := odt_comm g h k v v'
  have c3 := odt_comm g h k u u'
  simp only [ocj_ocj, odt_cj, omul_oscl, omul_oscr] at m1 m1b m2 m2b m3
  rw [m1b] at m1
  rw [m2b] at m2
  simp only [omul_oscl, omul_oscr] at m1 m2
  rw [f3]
  clear f3 m1b m2b
  generalize omul g h k (omul g h k (omul g h k (ocj t) (ocj v)) v') (ocj v) = P1 at *
  generalize omul g h k (omul g h k u v') (ocj v) = P2 at *
  generalize omul g h k (omul g h k u' (omul g h k (ocj u) (ocj t))) (ocj v) = P3 at *
  generalize omul g h k (omul g h k u' v) (ocj v) = P4 at *
  generalize omul g h k (omul g h k u v) (ocj v) = P5 at *
  generalize omul g h k (ocj t) (omul g h k (omul g h k (ocj v) (ocj u)) u') = P6 at *
  generalize omul g h k (ocj t) (omul g h k t u') = P7 at *
  generalize omul g h k (ocj t) (omul g h k t' (omul g h k (ocj t) (ocj v))) = P8 at *
  generalize omul g h k (ocj t) (omul g h k t' u) = P9 at *
  generalize omul g h k (ocj t) (omul g h k t u) = Q1 at *
  generalize omul g h k (ocj t') (omul g h k t u) = Q2 at *
  generalize omul g h k (omul g h k u v) (ocj v') = Q3 at *
  generalize omul g h k (ocj t) (ocj v) = C0 at *
  generalize omul g h k (ocj t) (ocj v') = C1 at *
  generalize omul g h k (ocj t') (ocj v) = C2 at *
  rw [← c2] at m1 m4; rw [← c1] at m2 m5
  clear c1 c2 c3
  generalize odt g h k u C0 = s1 at *
  generalize odt g h k u' C0 = s2 at *
  generalize odt g h k u u = s5 at *
  generalize odt g h k u u' = s6 at *
  generalize odt g h k v v = s7 at *
  generalize odt g h k v v' = s8 at *
  generalize odt g h k t t = s9 at *
  generalize odt g h k t t' = s10 at *
  subst m6 m7 m8 m9
  apply Oc.ext
  · have q1 := congrArg Oc.a0 m1; have q2 := congrArg Oc.a0 m2; have q3 := congrArg Oc.a0 m3; have q4 := congrArg Oc.a0 m4; have q5 := congrArg Oc.a0 m5; clear m1 m2 m3 m4 m5; dsimp only [oad, osc] at q1 q2 q3 q4 q5 ⊢; grind
  · have q1 := congrArg Oc.a1 m1; have q2 := congrArg Oc.a1 m2; have q3 := congrArg Oc.a1 m3; have q4 := congrArg Oc.a1 m4; have q5 := congrArg Oc.a1 m5; clear m1 m2 m3 m4 m5; dsimp only [oad, osc] at q1 q2 q3 q4 q5 ⊢; grind
  · have q1 := congrArg Oc.a2 m1; have q2 := congrArg Oc.a2 m2; have q3 := congrArg Oc.a2 m3; have q4 := congrArg Oc.a2 m4; have q5 := congrArg Oc.a2 m5; clear m1 m2 m3 m4 m5; dsimp only [oad, osc] at q1 q2 q3 q4 q5 ⊢; grind
  · have q1 := congrArg Oc.a3 m1; have q2 := congrArg Oc.a3 m2; have q3 := congrArg Oc.a3 m3; have q4 := congrArg Oc.a3 m4; have q5 := congrArg Oc.a3 m5; clear m1 m2 m3 m4 m5; dsimp only [oad, osc] at q1 q2 q3 q4 q5 ⊢; grind
  · have q1 := congrArg Oc.a4 m1; have q2 := congrArg Oc.a4 m2; have q3 := congrArg Oc.a4 m3; have q4 := congrArg Oc.a4 m4; have q5 := congrArg Oc.a4 m5; clear m1 m2 m3 m4 m5; dsimp only [oad, osc] at q1 q2 q3 q4 q5 ⊢; grind
  · have q1 := congrArg Oc.a5 m1; have q2 := congrArg Oc.a5 m2; have q3 := congrArg Oc.a5 m3; have q4 := congrArg Oc.a5 m4; have q5 := congrArg Oc.a5 m5; clear m1 m2 m3 m4 m5; dsimp only [oad, osc] at q1 q2 q3 q4 q5 ⊢; grind
  · have q1 := congrArg Oc.a6 m1; have q2 := congrArg Oc.a6 m2; have q3 := congrArg Oc.a6 m3; have q4 := congrArg Oc.a6 m4; have q5 := congrArg Oc.a6 m5; clear m1 m2 m3 m4 m5; dsimp only [oad, osc] at q1 q2 q3 q4 q5 ⊢; grind
  · have q1 := congrArg Oc.a7 m1; have q2 := congrArg Oc.a7 m2; have q3 := congrArg Oc.a7 m3; have q4 := congrArg Oc.a7 m4; have q5 := congrArg Oc.a7 m5; clear m1 m2 m3 m4 m5; dsimp only [oad, osc] at q1 q2 q3 q4 q5 ⊢; grind
theorem AC_rot (X : H3 n) : AC g h k (rot X) = rot (AC g h k X) := by have _h : NeZero n := inferInstance; rfl
theorem NC_rot (X : H3 n) : NC g h k (rot X) = NC g h k X := by
  have e := cyc g h k X.u X.t X.v
  have e2 := cyc g h k X.v X.u X.t
  unfold NC rot
  dsimp only
  grind
theorem FC_rot (X Y : H3 n) : FC g h k (rot X) (rot Y) = FC g h k X Y := by unfold FC rot; dsimp only; grind
theorem XA (X Y : H3 n) : XC g h k (AC g h k X) (XC g h k X Y) = SC (MC (NC g h k X) Y) (FC g h k (AC g h k X) Y) X := by
  have r1 := XA_a g h k (rot X) (rot Y)
  have r2 := XA_a g h k (rot (rot X)) (rot (rot Y))
  have r3 := XA_u g h k (rot X) (rot Y)
  have r4 := XA_u g h k (rot (rot X)) (rot (rot Y))
  simp only [AC_rot, XC_rot, NC_rot, FC_rot] at r1 r2 r3 r4
  exact H3.ext (XA_a g h k X Y) r1 r2 (XA_u g h k X Y) r3 r4
theorem XB (X Y : H3 n) : XC g h k X (XC g h k (AC g h k X) Y) = SC (MC (NC g h k X) Y) (FC g h k X Y) (AC g h k X) := by
  have r1 := XB_a g h k (rot X) (rot Y)
  have r2 := XB_a g h k (rot (rot X)) (rot (rot Y))
  have r3 := XB_u g h k (rot X) (rot Y)
  have r4 := XB_u g h k (rot (rot X)) (rot (rot Y))
  simp only [AC_rot, XC_rot, NC_rot, FC_rot] at r1 r2 r3 r4
  exact H3.ext (XB_a g h k X Y) r1 r2 (XB_u g h k X Y) r3 r4
theorem XC_comm (X Y : H3 n) : XC g h k X Y = XC g h k Y X := by
  have e1 := odt_comm g h k X.u Y.u
  have e2 := odt_comm g h k X.v Y.v
  have e3 := odt_comm g h k X.t Y.t
  unfold XC
  apply H3.ext
  · dsimp only; grind
  · dsimp only; grind
  · dsimp only; grind
  · dsimp only [oad, osc, ocj]; apply Oc.ext <;> grind
  · dsimp only [oad, osc, ocj]; apply Oc.ext <;> grind
  · dsimp only [oad, osc, ocj]; apply Oc.ext <;> grind
theorem FC_comm (X Y : H3 n) : FC g h k X Y = FC g h k Y X := by
  have e1 := odt_comm g h k X.u Y.u
  have e2 := odt_comm g h k X.v Y.v
  have e3 := odt_comm g h k X.t Y.t
  unfold FC
  grind
/-- The cross and the form are symmetric in three places. -/
theorem FX_sym (X Y Z : H3 n) : FC g h k (XC g h k X Y) Z = FC g h k X (XC g h k Y Z) := by
  obtain ⟨a, b, c, u, v, t⟩ := X
  obtain ⟨a', b', c', u', v', t'⟩ := Y
  obtain ⟨a2, b2, c2, u2, v2, t2⟩ := Z
  simp only [XC, FC, ocj_oad, ocj_osc, ocj_mul, ocj_ocj, odt_addl, odt_addr, odt_oscl, odt_oscr]
  have e1 := cyc g h k u2 t' v
  have e2 := cyc g h k v t' u2
  have p1 := odt_comm g h k (omul g h k (ocj t') (ocj v)) u2
  have p2 := odt_comm g h k (omul g h k (ocj t) (ocj v')) u2
  have p3 := odt_comm g h k (omul g h k (ocj u') (ocj t)) v2
  have p4 := odt_comm g h k (omul g h k (ocj u) (ocj t')) v2
  have p5 := odt_comm g h k (omul g h k (ocj v') (ocj u)) t2
  have p6 := odt_comm g h k (omul g h k (ocj v) (ocj u')) t2
  have k1 := cyc g h k u2 t' v
  have k2 := cyc g h k t' v u2
  have k3 := cyc g h k u2 t v'
  have k4 := cyc g h k t v' u2
  have k5 := cyc g h k v2 u' t
  have k6 := cyc g h k u' t v2
  have k7 := cyc g h k v2 u t'
  have k8 := cyc g h k u t' v2
  have k9 := cyc g h k t2 v' u
  have l1 := cyc g h k v' u t2
  have l2 := cyc g h k t2 v u'
  have l3 := cyc g h k v u' t2
  have d1 := odt_comm g h k u u'
  have d2 := odt_comm g h k v v'
  have d3 := odt_comm g h k t t'
  have d4 := odt_comm g h k u' u2
  have d5 := odt_comm g h k v' v2
  have d6 := odt_comm g h k t' t2
  have d7 := odt_comm g h k u u2
  have d8 := odt_comm g h k v v2
  have d9 := odt_comm g h k t t2
  grind
end
end Go.Proofs.Ytacfanjejaellaa
