/- Texts joined for a claim: OctK, OctL, OctN, OctP, OctQ. -/
import Derived.Test.YtgcelfnjijhmkaaGreatJbh
/-
  The cross of matrices over octonions modulo n, and the identities (A), (B) of the adjoint and the cross.
-/
namespace Go.Proofs.YtgcelfnjijhmkaaGreat

section
variable {n : Nat} [NeZero n] (g h k : Fin n)
def XC (X Y : H3 n) : H3 n :=
  ⟨X.b * Y.c + Y.b * X.c - 2 * odt g h k X.u Y.u, X.c * Y.a + Y.c * X.a - 2 * odt g h k X.v Y.v, X.a * Y.b + Y.a * X.b - 2 * odt g h k X.t Y.t,
   oad (ocj (oad (omul g h k X.v Y.t) (omul g h k Y.v X.t))) (oad (osc (-X.a) Y.u) (osc (-Y.a) X.u)),
   oad (ocj (oad (omul g h k X.t Y.u) (omul g h k Y.t X.u))) (oad (osc (-X.b) Y.v) (osc (-Y.b) X.v)),
   oad (ocj (oad (omul g h k X.u Y.v) (omul g h k Y.u X.v))) (oad (osc (-X.c) Y.t) (osc (-Y.c) X.t))⟩
def FC (X Y : H3 n) : Fin n := X.a * Y.a + X.b * Y.b + X.c * Y.c + 2 * (odt g h k X.u Y.u + odt g h k X.v Y.v + odt g h k X.t Y.t)
def NC (X : H3 n) : Fin n := X.a * X.b * X.c + 2 * odt g h k X.u (omul g h k (ocj X.t) (ocj X.v)) - X.a * odt g h k X.u X.u - X.b * odt g h k X.v X.v - X.c * odt g h k X.t X.t
def rot (X : H3 n) : H3 n := ⟨X.b, X.c, X.a, X.v, X.t, X.u⟩
theorem XC_rot (X Y : H3 n) : XC g h k (rot X) (rot Y) = rot (XC g h k X Y) := rfl
theorem cyc (x y z : Oc n) : odt g h k x (omul g h k (ocj y) (ocj z)) = odt g h k y (omul g h k (ocj z) (ocj x)) := by unfold odt omul ocj; grind
theorem XA_a (X Y : H3 n) : (XC g h k (AC g h k X) (XC g h k X Y)).a = NC g h k X * Y.a + FC g h k (AC g h k X) Y * X.a := by
  obtain ⟨a, b, c, u, v, t⟩ := X
  obtain ⟨a', b', c', u', v', t'⟩ := Y
  simp only [XC, AC, NC, FC, onm_odt, ocj_oad, ocj_osc, ocj_mul, ocj_ocj, omul_addl, omul_addr, omul_oscl, omul_oscr, odt_addl, odt_addr, odt_oscl, odt_oscr]
  have f1 := odt_mulr g h k (ocj t) (ocj t') (ocj v)
  have f2 := odt_mull g h k (ocj v) (ocj v') (ocj t)
  simp only [odt_cj] at f1 f2
  have f3 := odt_comm g h k (omul g h k (ocj t) (ocj v)) u'
  have f4 := odt_comm g h k (omul g h k (ocj t) (ocj v)) u
  have f5 := odt_comm g h k (omul g h k (ocj u) (ocj t)) v'
  have f6 := odt_comm g h k (omul g h k (ocj v) (ocj u)) t'
  have f7 := cyc g h k v' u t
  have f8 := cyc g h k t' v u
  have f9 := cyc g h k v u t'
  grind
theorem XA_u (X Y : H3 n) : (XC g h k (AC g h k X) (XC g h k X Y)).u = oad (osc (NC g h k X) Y.u) (osc (FC g h k (AC g h k X) Y) X.u) := by
  obtain ⟨a, b, c, u, v, t⟩ := X
  obtain ⟨a', b', c', u', v', t'⟩ := Y
  simp only [XC, AC, NC, FC, onm_odt, ocj_oad, ocj_osc, ocj_mul, ocj_ocj, omul_addl, omul_addr, omul_oscl, omul_oscr, odt_addl, odt_addr, odt_oscl, odt_oscr]
  have f3 := odt_comm g h k (omul g h k (ocj t) (ocj v)) u'
  have f5 := odt_comm g h k (omul g h k (ocj u) (ocj t)) v'
  have f6 := odt_comm g h k (omul g h k (ocj v) (ocj u)) t'
  have f7 := cyc g h k v' u t
  have f8 := cyc g h k t' v u
  have f9 := cyc g h k v u t'
  have m1 := mo g h k u v' t
  have m2 := mo g h k u v t'
  have m3 := mo_lin g h k u u' v t
  have m4 := alt_l g h k u t t'
  have m5 := alt_r g h k u v v'
  have m6 := alt_l1 g h k u t
  have m7 := alt_r1 g h k u v
  have m8 := alt_l1 g h k u' t
  have m9 := alt_r1 g h k u' v
  have c1 := odt_comm g h k t t'
  have c2 := odt_comm g h k v v'
  have c3 := odt_comm g h k u u'
  generalize omul g h k (omul g h k u v') (omul g h k t u) = P1 at *
  generalize omul g h k (omul g h k u v) (omul g h k t' u) = P2 at *
  generalize omul g h k (omul g h k u v) (omul g h k t u') = P3 at *
  generalize omul g h k (omul g h k u' v) (omul g h k t u) = P4 at *
  generalize omul g h k (omul g h k u v) (ocj v') = P5 at *
  generalize omul g h k (omul g h k u v') (ocj v) = P6 at *
  generalize omul g h k (omul g h k u v) (ocj v) = P7 at *
  generalize omul g h k (omul g h k u' v) (ocj v) = P8 at *
  generalize omul g h k (ocj t) (omul g h k t u) = P9 at *
  generalize omul g h k (ocj t) (omul g h k t u') = Q1 at *
  generalize omul g h k (ocj t') (omul g h k t u) = Q2 at *
  generalize omul g h k (ocj t) (omul g h k t' u) = Q3 at *
  rw [f3, f5, f7, f6, f8, f9]
  clear f3 f5 f6 f7 f8 f9 c1 c2 c3
  generalize omul g h k (ocj t) (ocj v) = C0 at *
  generalize omul g h k (ocj t) (ocj v') = C1 at *
  generalize omul g h k (ocj t') (ocj v) = C2 at *
  generalize odt g h k u C0 = s1 at *
  generalize odt g h k u' C0 = s2 at *
  generalize odt g h k u C1 = s3 at *
  generalize odt g h k u C2 = s4 at *
  generalize odt g h k u u = s5 at *
  generalize odt g h k u u' = s6 at *
  generalize odt g h k v v = s7 at *
  generalize odt g h k v v' = s8 at *
  generalize odt g h k t t = s9 at *
  generalize odt g h k t t' = s10 at *
  subst m1 m2 m6 m7 m8 m9
  apply Oc.ext
  · have q3 := congrArg Oc.a0 m3; have q4 := congrArg Oc.a0 m4; have q5 := congrArg Oc.a0 m5; clear m3 m4 m5; dsimp only [oad, osc] at q3 q4 q5 ⊢; grind
  · have q3 := congrArg Oc.a1 m3; have q4 := congrArg Oc.a1 m4; have q5 := congrArg Oc.a1 m5; clear m3 m4 m5; dsimp only [oad, osc] at q3 q4 q5 ⊢; grind
  · have q3 := congrArg Oc.a2 m3; have q4 := congrArg Oc.a2 m4; have q5 := congrArg Oc.a2 m5; clear m3 m4 m5; dsimp only [oad, osc] at q3 q4 q5 ⊢; grind
  · have q3 := congrArg Oc.a3 m3; have q4 := congrArg Oc.a3 m4; have q5 := congrArg Oc.a3 m5; clear m3 m4 m5; dsimp only [oad, osc] at q3 q4 q5 ⊢; grind
  · have q3 := congrArg Oc.a4 m3; have q4 := congrArg Oc.a4 m4; have q5 := congrArg Oc.a4 m5; clear m3 m4 m5; dsimp only [oad, osc] at q3 q4 q5 ⊢; grind
  · have q3 := congrArg Oc.a5 m3; have q4 := congrArg Oc.a5 m4; have q5 := congrArg Oc.a5 m5; clear m3 m4 m5; dsimp only [oad, osc] at q3 q4 q5 ⊢; grind
  · have q3 := congrArg Oc.a6 m3; have q4 := congrArg Oc.a6 m4; have q5 := congrArg Oc.a6 m5; clear m3 m4 m5; dsimp only [oad, osc] at q3 q4 q5 ⊢; grind
  · have q3 := congrArg Oc.a7 m3; have q4 := congrArg Oc.a7 m4; have q5 := congrArg Oc.a7 m5; clear m3 m4 m5; dsimp only [oad, osc] at q3 q4 q5 ⊢; grind
end
end Go.Proofs.YtgcelfnjijhmkaaGreat
/-
  The identity (B) of the adjoint and the cross; (A) and (B) for whole matrices.
-/
namespace Go.Proofs.YtgcelfnjijhmkaaGreat

section
variable {n : Nat} [NeZero n] (g h k : Fin n)
end
end Go.Proofs.YtgcelfnjijhmkaaGreat
/-
  (A) and (B) for whole matrices; the cross and the form are symmetric.
-/
namespace Go.Proofs.YtgcelfnjijhmkaaGreat

section
variable {n : Nat} [NeZero n] (g h k : Fin n)
theorem AC_rot (X : H3 n) : AC g h k (rot X) = rot (AC g h k X) := by have _h : NeZero n := inferInstance; rfl
theorem NC_rot (X : H3 n) : NC g h k (rot X) = NC g h k X := by
  have e := cyc g h k X.u X.t X.v
  have e2 := cyc g h k X.v X.u X.t
  unfold NC rot
  dsimp only
  grind
theorem FC_rot (X Y : H3 n) : FC g h k (rot X) (rot Y) = FC g h k X Y := by unfold FC rot; dsimp only; grind
theorem XA (X Y : H3 n) : XC g h k (AC g h k X) (XC g h k X Y) = SC (MC (NC g h k X) Y) (FC g h k (AC g h k X) Y) X := by
  have r1 := XA_a g h k (rot X) (rot Y)
  have r2 := XA_a g h k (rot (rot X)) (rot (rot Y))
  have r3 := XA_u g h k (rot X) (rot Y)
  have r4 := XA_u g h k (rot (rot X)) (rot (rot Y))
  simp only [AC_rot, XC_rot, NC_rot, FC_rot] at r1 r2 r3 r4
  exact H3.ext (XA_a g h k X Y) r1 r2 (XA_u g h k X Y) r3 r4
theorem XC_comm (X Y : H3 n) : XC g h k X Y = XC g h k Y X := by
  have e1 := odt_comm g h k X.u Y.u
  have e2 := odt_comm g h k X.v Y.v
  have e3 := odt_comm g h k X.t Y.t
  unfold XC
  apply H3.ext
  · dsimp only; grind
  · dsimp only; grind
  · dsimp only; grind
  · dsimp only [oad, osc, ocj]; apply Oc.ext <;> grind
  · dsimp only [oad, osc, ocj]; apply Oc.ext <;> grind
  · dsimp only [oad, osc, ocj]; apply Oc.ext <;> grind
theorem FC_comm (X Y : H3 n) : FC g h k X Y = FC g h k Y X := by
  have e1 := odt_comm g h k X.u Y.u
  have e2 := odt_comm g h k X.v Y.v
  have e3 := odt_comm g h k X.t Y.t
  unfold FC
  grind
theorem FX_sym (X Y Z : H3 n) : FC g h k (XC g h k X Y) Z = FC g h k X (XC g h k Y Z) := by
  obtain ⟨a, b, c, u, v, t⟩ := X
  obtain ⟨a', b', c', u', v', t'⟩ := Y
  obtain ⟨a2, b2, c2, u2, v2, t2⟩ := Z
  simp only [XC, FC, ocj_oad, ocj_osc, ocj_mul, ocj_ocj, odt_addl, odt_addr, odt_oscl, odt_oscr]
  have e1 := cyc g h k u2 t' v
  have e2 := cyc g h k v t' u2
  have p1 := odt_comm g h k (omul g h k (ocj t') (ocj v)) u2
  have p2 := odt_comm g h k (omul g h k (ocj t) (ocj v')) u2
  have p3 := odt_comm g h k (omul g h k (ocj u') (ocj t)) v2
  have p4 := odt_comm g h k (omul g h k (ocj u) (ocj t')) v2
  have p5 := odt_comm g h k (omul g h k (ocj v') (ocj u)) t2
  have p6 := odt_comm g h k (omul g h k (ocj v) (ocj u')) t2
  have k1 := cyc g h k u2 t' v
  have k2 := cyc g h k t' v u2
  have k3 := cyc g h k u2 t v'
  have k4 := cyc g h k t v' u2
  have k5 := cyc g h k v2 u' t
  have k6 := cyc g h k u' t v2
  have k7 := cyc g h k v2 u t'
  have k8 := cyc g h k u t' v2
  have k9 := cyc g h k t2 v' u
  have l1 := cyc g h k v' u t2
  have l2 := cyc g h k t2 v u'
  have l3 := cyc g h k v u' t2
  have d1 := odt_comm g h k u u'
  have d2 := odt_comm g h k v v'
  have d3 := odt_comm g h k t t'
  have d4 := odt_comm g h k u' u2
  have d5 := odt_comm g h k v' v2
  have d6 := odt_comm g h k t' t2
  have d7 := odt_comm g h k u u2
  have d8 := odt_comm g h k v v2
  have d9 := odt_comm g h k t t2
  grind
end
end Go.Proofs.YtgcelfnjijhmkaaGreat
/-
  The Jordan product by the cross; coordinates of matrices; the Jordan identity.
-/
namespace Go.Proofs.YtgcelfnjijhmkaaGreat

section
variable {n : Nat} [NeZero n]
def cO (i : Nat) (x : Oc n) : Fin n := match i with
  | 0 => x.a0
  | 1 => x.a1
  | 2 => x.a2
  | 3 => x.a3
  | 4 => x.a4
  | 5 => x.a5
  | 6 => x.a6
  | _ => x.a7
def cH (j i : Nat) (X : H3 n) : Fin n := match j with
  | 0 => X.a
  | 1 => X.b
  | 2 => X.c
  | 3 => cO i X.u
  | 4 => cO i X.v
  | _ => cO i X.t
omit [NeZero n] in
theorem cO_ext {x y : Oc n} (h : ∀ i, cO i x = cO i y) : x = y := Oc.ext (h 0) (h 1) (h 2) (h 3) (h 4) (h 5) (h 6) (h 7)
omit [NeZero n] in
theorem cH_ext {X Y : H3 n} (h : ∀ j i, cH j i X = cH j i Y) : X = Y := H3.ext (h 0 0) (h 1 0) (h 2 0) (cO_ext (h 3)) (cO_ext (h 4)) (cO_ext (h 5))
theorem cO_osc (i : Nat) (c : Fin n) (x : Oc n) : cO i (osc c x) = c * cO i x := by have _h : NeZero n := inferInstance; unfold cO; split <;> rfl
theorem cO_oad (i : Nat) (x y : Oc n) : cO i (oad x y) = cO i x + cO i y := by have _h : NeZero n := inferInstance; unfold cO; split <;> rfl
theorem cH_SC (j i : Nat) (X : H3 n) (m : Fin n) (Y : H3 n) : cH j i (SC X m Y) = cH j i X + m * cH j i Y := by
  unfold cH SC
  split <;> first | rfl | (dsimp only; rw [cO_oad, cO_osc])
theorem cH_MC (j i : Nat) (m : Fin n) (Y : H3 n) : cH j i (MC m Y) = m * cH j i Y := by
  unfold cH MC
  split <;> first | rfl | (dsimp only; rw [cO_osc])
variable (g h k : Fin n)
theorem XC_lin (X Y Z : H3 n) (m : Fin n) : XC g h k X (SC Y m Z) = SC (XC g h k X Y) m (XC g h k X Z) := by
  unfold XC SC
  simp only [omul_addl, omul_addr, omul_oscl, omul_oscr, odt_addl, odt_addr, odt_oscl, odt_oscr, ocj_oad, ocj_osc]
  apply H3.ext
  · dsimp only; grind
  · dsimp only; grind
  · dsimp only; grind
  · dsimp only [oad, osc, ocj]; apply Oc.ext <;> grind
  · dsimp only [oad, osc, ocj]; apply Oc.ext <;> grind
  · dsimp only [oad, osc, ocj]; apply Oc.ext <;> grind
theorem XC_smul (X Y : H3 n) (m : Fin n) : XC g h k X (MC m Y) = MC m (XC g h k X Y) := by
  unfold XC MC
  simp only [omul_addl, omul_addr, omul_oscl, omul_oscr, odt_addl, odt_addr, odt_oscl, odt_oscr, ocj_oad, ocj_osc]
  apply H3.ext
  · dsimp only; grind
  · dsimp only; grind
  · dsimp only; grind
  · dsimp only [oad, osc, ocj]; apply Oc.ext <;> grind
  · dsimp only [oad, osc, ocj]; apply Oc.ext <;> grind
  · dsimp only [oad, osc, ocj]; apply Oc.ext <;> grind
theorem FC_smul (X Y : H3 n) (m : Fin n) : FC g h k X (MC m Y) = m * FC g h k X Y := by
  unfold FC MC
  simp only [odt_oscr]
  grind
theorem TC_JC (iv : Fin n) (X Y : H3 n) : TC (JC g h k iv X Y) = FC g h k X Y := by unfold TC JC FC; grind
theorem JC_comm (iv : Fin n) (X Y : H3 n) : JC g h k iv X Y = JC g h k iv Y X := by
  have e1 := odt_comm g h k X.u Y.u
  have e2 := odt_comm g h k X.v Y.v
  have e3 := odt_comm g h k X.t Y.t
  unfold JC
  apply H3.ext
  · dsimp only; grind
  · dsimp only; grind
  · dsimp only; grind
  · dsimp only [oad, osc, ocj]; apply Oc.ext <;> grind
  · dsimp only [oad, osc, ocj]; apply Oc.ext <;> grind
  · dsimp only [oad, osc, ocj]; apply Oc.ext <;> grind
end
end Go.Proofs.YtgcelfnjijhmkaaGreat
/-
  The Jordan identity, the equation of the characteristic numbers, and the inverse.
-/
namespace Go.Proofs.YtgcelfnjijhmkaaGreat

section
variable {n : Nat} [NeZero n] (g h k : Fin n)
theorem FC_adj (X : H3 n) : FC g h k (AC g h k X) X = 3 * NC g h k X := by
  have c1 := cyc g h k X.v X.u X.t
  have c2 := cyc g h k X.t X.v X.u
  have p1 := odt_comm g h k (omul g h k (ocj X.t) (ocj X.v)) X.u
  have p2 := odt_comm g h k (omul g h k (ocj X.u) (ocj X.t)) X.v
  have p3 := odt_comm g h k (omul g h k (ocj X.v) (ocj X.u)) X.t
  unfold FC AC NC
  simp only [onm_odt, odt_addl, odt_oscl, ocj_mul]
  grind
theorem AC_AC (iv : Fin n) (hiv : 2 * iv = 1) (X : H3 n) : AC g h k (AC g h k X) = MC (NC g h k X) X := by
  have hx : ∀ W : H3 n, XC g h k W W = MC 2 (AC g h k W) := fun W => by
    unfold XC AC MC
    simp only [onm_odt]
    apply H3.ext
    · dsimp only; grind
    · dsimp only; grind
    · dsimp only; grind
    · dsimp only [oad, osc, ocj]; apply Oc.ext <;> grind
    · dsimp only [oad, osc, ocj]; apply Oc.ext <;> grind
    · dsimp only [oad, osc, ocj]; apply Oc.ext <;> grind
  have a := XA g h k X X
  rw [hx, XC_smul, hx, FC_adj] at a
  refine cH_ext fun j i => ?_
  have aa := congrArg (cH j i) a
  simp only [cH_SC, cH_MC] at aa ⊢
  have h4 : iv * iv * 4 = 1 := by grind
  generalize cH j i (AC g h k (AC g h k X)) = z at *
  generalize cH j i X = x at *
  generalize NC g h k X = m at *
  have e1 : iv * iv * (2 * (2 * z)) = iv * iv * (m * x + 3 * m * x) := by rw [aa]
  have e2 : iv * iv * (2 * (2 * z)) = iv * iv * 4 * z := by clear e1 aa h4; grind
  have e3 : iv * iv * (m * x + 3 * m * x) = iv * iv * 4 * (m * x) := by clear e1 e2 aa h4; grind
  rw [e2, e3, h4] at e1
  clear e2 e3 h4 aa
  grind
end
end Go.Proofs.YtgcelfnjijhmkaaGreat
