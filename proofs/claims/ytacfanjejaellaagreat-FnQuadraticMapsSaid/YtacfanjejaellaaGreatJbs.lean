/- Texts joined for a claim: OctP, OctQ, OctR. -/
import Derived.Test.YtacfanjejaellaaGreatJbr
/-
  The Jordan product by the cross; coordinates of matrices; the Jordan identity.
-/
namespace Go.Proofs.YtacfanjejaellaaGreat

section
variable {n : Nat} [NeZero n]
/-- A coordinate. -/
def cO (i : Nat) (x : Oc n) : Fin n := match i with
  | 0 => x.a0
  | 1 => x.a1
  | 2 => x.a2
  | 3 => x.a3
  | 4 => x.a4
  | 5 => x.a5
  | 6 => x.a6
  | _ => x.a7
def cH (j i : Nat) (X : H3 n) : Fin n := match j with
  | 0 => X.a
  | 1 => X.b
  | 2 => X.c
  | 3 => cO i X.u
  | 4 => cO i X.v
  | _ => cO i X.t
omit [NeZero n] in
theorem cO_ext {x y : Oc n} (h : ∀ i, cO i x = cO i y) : x = y := Oc.ext (h 0) (h 1) (h 2) (h 3) (h 4) (h 5) (h 6) (h 7)
omit [NeZero n] in
theorem cH_ext {X Y : H3 n} (h : ∀ j i, cH j i X = cH j i Y) : X = Y := H3.ext (h 0 0) (h 1 0) (h 2 0) (cO_ext (h 3)) (cO_ext (h 4)) (cO_ext (h 5))
theorem cO_osc (i : Nat) (c : Fin n) (x : Oc n) : cO i (osc c x) = c * cO i x := by have _h : NeZero n := inferInstance; unfold cO; split <;> rfl
theorem cO_oad (i : Nat) (x y : Oc n) : cO i (oad x y) = cO i x + cO i y := by have _h : NeZero n := inferInstance; unfold cO; split <;> rfl
theorem cH_SC (j i : Nat) (X : H3 n) (m : Fin n) (Y : H3 n) : cH j i (SC X m Y) = cH j i X + m * cH j i Y := by
  unfold cH SC
  split <;> first | rfl | (dsimp only; rw [cO_oad, cO_osc])
theorem cH_MC (j i : Nat) (m : Fin n) (Y : H3 n) : cH j i (MC m Y) = m * cH j i Y := by
  unfold cH MC
  split <;> first | rfl | (dsimp only; rw [cO_osc])
variable (g h k : Fin n)
theorem XC_lin (X Y Z : H3 n) (m : Fin n) : XC g h k X (SC Y m Z) = SC (XC g h k X Y) m (XC g h k X Z) := by
  unfold XC SC
  simp only [omul_addl, omul_addr, omul_oscl, omul_oscr, odt_addl, odt_addr, odt_oscl, odt_oscr, ocj_oad, ocj_osc]
  apply H3.ext
  · dsimp only; grind
  · dsimp only; grind
  · dsimp only; grind
  · dsimp only [oad, osc, ocj]; apply Oc.ext <;> grind
  · dsimp only [oad, osc, ocj]; apply Oc.ext <;> grind
  · dsimp only [oad, osc, ocj]; apply Oc.ext <;> grind
theorem XC_smul (X Y : H3 n) (m : Fin n) : XC g h k X (MC m Y) = MC m (XC g h k X Y) := by
  unfold XC MC
  simp only [omul_addl, omul_addr, omul_oscl, omul_oscr, odt_addl, odt_addr, odt_oscl, odt_oscr, ocj_oad, ocj_osc]
  apply H3.ext
  · dsimp only; grind
  · dsimp only; grind
  · dsimp only; grind
  · dsimp only [oad, osc, ocj]; apply Oc.ext <;> grind
  · dsimp only [oad, osc, ocj]; apply Oc.ext <;> grind
  · dsimp only [oad, osc, ocj]; apply Oc.ext <;> grind
theorem FC_lin (X Y Z : H3 n) (m : Fin n) : FC g h k X (SC Y m Z) = FC g h k X Y + m * FC g h k X Z := by
  unfold FC SC
  simp only [odt_addr, odt_oscr]
  grind
theorem FC_smul (X Y : H3 n) (m : Fin n) : FC g h k X (MC m Y) = m * FC g h k X Y := by
  unfold FC MC
  simp only [odt_oscr]
  grind
theorem FC_one (X : H3 n) : FC g h k X one3 = TC X := by
  unfold FC one3 TC ore odt
  grind
theorem XC_one (X : H3 n) : XC g h k X one3 = SC (MC (TC X) one3) (-1) X := by
  unfold XC one3 SC MC TC ore odt
  apply H3.ext
  · dsimp only; grind
  · dsimp only; grind
  · dsimp only; grind
  · dsimp only [oad, osc, ocj, omul]; apply Oc.ext <;> grind
  · dsimp only [oad, osc, ocj, omul]; apply Oc.ext <;> grind
  · dsimp only [oad, osc, ocj, omul]; apply Oc.ext <;> grind
end
end Go.Proofs.YtacfanjejaellaaGreat
/-
  The Jordan identity, the equation of the characteristic numbers, and the inverse.
-/
namespace Go.Proofs.YtacfanjejaellaaGreat

section
variable {n : Nat} [NeZero n] (g h k : Fin n)
theorem FC_adj (X : H3 n) : FC g h k (AC g h k X) X = 3 * NC g h k X := by
  have c1 := cyc g h k X.v X.u X.t
  have c2 := cyc g h k X.t X.v X.u
  have p1 := odt_comm g h k (omul g h k (ocj X.t) (ocj X.v)) X.u
  have p2 := odt_comm g h k (omul g h k (ocj X.u) (ocj X.t)) X.v
  have p3 := odt_comm g h k (omul g h k (ocj X.v) (ocj X.u)) X.t
  unfold FC AC NC
  simp only [onm_odt, odt_addl, odt_oscl, ocj_mul]
  grind
theorem XC_adj (X : H3 n) : XC g h k X (AC g h k X) = SC (SC (MC (TC (AC g h k X) * TC X - NC g h k X) one3) (-(TC (AC g h k X))) X) (-(TC X)) (AC g h k X) := by
  have b := XB g h k X one3
  rw [XC_one, FC_one] at b
  generalize AC g h k X = Z at *
  have e : XC g h k X (SC (MC (TC Z) one3) (-1) Z) = SC (MC (TC Z) (XC g h k X one3)) (-1) (XC g h k X Z) := by rw [XC_lin, XC_smul]
  rw [e, XC_one] at b
  refine cH_ext fun j i => ?_
  have bb := congrArg (cH j i) b
  simp only [cH_SC, cH_MC] at bb ⊢
  grind
/-- The adjoint of the adjoint. -/
theorem AC_AC (iv : Fin n) (hiv : 2 * iv = 1) (X : H3 n) : AC g h k (AC g h k X) = MC (NC g h k X) X := by
  have hx : ∀ W : H3 n, XC g h k W W = MC 2 (AC g h k W) := fun W => by
    unfold XC AC MC
    simp only [onm_odt]
    apply H3.ext
    · dsimp only; grind
    · dsimp only; grind
    · dsimp only; grind
    · dsimp only [oad, osc, ocj]; apply Oc.ext <;> grind
    · dsimp only [oad, osc, ocj]; apply Oc.ext <;> grind
    · dsimp only [oad, osc, ocj]; apply Oc.ext <;> grind
  have a := XA g h k X X
  rw [hx, XC_smul, hx, FC_adj] at a
  refine cH_ext fun j i => ?_
  have aa := congrArg (cH j i) a
  simp only [cH_SC, cH_MC] at aa ⊢
  have h4 : iv * iv * 4 = 1 := by grind
  generalize cH j i (AC g h k (AC g h k X)) = z at *
  generalize cH j i X = x at *
  generalize NC g h k X = m at *
  have e1 : iv * iv * (2 * (2 * z)) = iv * iv * (m * x + 3 * m * x) := by rw [aa]
  have e2 : iv * iv * (2 * (2 * z)) = iv * iv * 4 * z := by clear e1 aa h4; grind
  have e3 : iv * iv * (m * x + 3 * m * x) = iv * iv * 4 * (m * x) := by clear e1 e2 aa h4; grind
  rw [e2, e3, h4] at e1
  clear e2 e3 h4 aa
  grind
end
end Go.Proofs.YtacfanjejaellaaGreat
/-
  The quadratic map: its adjoint, its determinant, and the law of three maps.
-/
namespace Go.Proofs.YtacfanjejaellaaGreat

section
variable {n : Nat} [NeZero n] (g h k : Fin n)
def UC (X Y : H3 n) : H3 n := SC (MC (FC g h k X Y) X) (-1) (XC g h k (AC g h k X) Y)
theorem AC_SC (X Y : H3 n) (s : Fin n) : AC g h k (SC X s Y) = SC (SC (AC g h k X) s (XC g h k X Y)) (s * s) (AC g h k Y) := by
  have e1 := odt_comm g h k X.u Y.u
  have e2 := odt_comm g h k X.v Y.v
  have e3 := odt_comm g h k X.t Y.t
  unfold AC SC XC
  simp only [onm_odt, omul_addl, omul_addr, omul_oscl, omul_oscr, odt_addl, odt_addr, odt_oscl, odt_oscr, ocj_oad, ocj_osc]
  apply H3.ext
  · dsimp only; grind
  · dsimp only; grind
  · dsimp only; grind
  · dsimp only [oad, osc, ocj]; apply Oc.ext <;> grind
  · dsimp only [oad, osc, ocj]; apply Oc.ext <;> grind
  · dsimp only [oad, osc, ocj]; apply Oc.ext <;> grind
theorem XC_linl (X Y Z : H3 n) (m : Fin n) : XC g h k (SC Y m Z) X = SC (XC g h k Y X) m (XC g h k Z X) := by
  rw [XC_comm, XC_lin, XC_comm g h k X Y, XC_comm g h k X Z]
theorem XC_smull (X Y : H3 n) (m : Fin n) : XC g h k (MC m Y) X = MC m (XC g h k Y X) := by
  rw [XC_comm, XC_smul, XC_comm]
theorem FC_linl (X Y Z : H3 n) (m : Fin n) : FC g h k (SC Y m Z) X = FC g h k Y X + m * FC g h k Z X := by
  rw [FC_comm, FC_lin, FC_comm g h k X Y, FC_comm g h k X Z]
theorem FC_smull (X Y : H3 n) (m : Fin n) : FC g h k (MC m Y) X = m * FC g h k Y X := by
  rw [FC_comm, FC_smul, FC_comm]
theorem NC_SC (X Y : H3 n) (s : Fin n) : NC g h k (SC X s Y) = NC g h k X + s * FC g h k (AC g h k X) Y + s * s * FC g h k X (AC g h k Y) + s * s * s * NC g h k Y := by
  obtain ⟨a, b, c, u, v, t⟩ := X
  obtain ⟨a', b', c', u', v', t'⟩ := Y
  simp only [NC, SC, FC, AC, onm_odt, ocj_oad, ocj_osc, ocj_mul, omul_addl, omul_addr, omul_oscl, omul_oscr, odt_addl, odt_addr, odt_oscl, odt_oscr]
  have p1 := odt_comm g h k (omul g h k (ocj t) (ocj v)) u'
  have p2 := odt_comm g h k (omul g h k (ocj u) (ocj t)) v'
  have p3 := odt_comm g h k (omul g h k (ocj v) (ocj u)) t'
  have q1 := cyc g h k v' u t
  have q2 := cyc g h k t' v u
  have q3 := cyc g h k v u t'
  have r1 := cyc g h k v u' t'
  have r2 := cyc g h k u' t' v
  have r3 := cyc g h k t v' u'
  have r4 := cyc g h k v' u' t
  have d1 := odt_comm g h k u u'
  have d2 := odt_comm g h k v v'
  have d3 := odt_comm g h k t t'
  grind
/-- The adjoint of a cross. -/
theorem AC_XC (iv : Fin n) (hiv : 2 * iv = 1) (X Y : H3 n) : AC g h k (XC g h k X Y) = SC (SC (MC (FC g h k (AC g h k X) Y) Y) (FC g h k X (AC g h k Y)) X) (-1) (XC g h k (AC g h k X) (AC g h k Y)) := by
  have p := AC_AC g h k iv hiv (SC X 1 Y)
  have m := AC_AC g h k iv hiv (SC X (-1) Y)
  have x := AC_AC g h k iv hiv X
  have y := AC_AC g h k iv hiv Y
  rw [AC_SC, AC_SC, AC_SC] at p m
  rw [NC_SC] at p m
  simp only [XC_linl, XC_lin] at p m
  rw [x, y] at p m
  refine cH_ext fun j i => ?_
  have pp := congrArg (cH j i) p
  have mm := congrArg (cH j i) m
  clear p m x y
  simp only [cH_SC, cH_MC] at pp mm ⊢
  have s : 2 * cH j i (AC g h k (XC g h k X Y)) = 2 * (FC g h k (AC g h k X) Y * cH j i Y + FC g h k X (AC g h k Y) * cH j i X + -1 * cH j i (XC g h k (AC g h k X) (AC g h k Y))) := by grind
  generalize cH j i (AC g h k (XC g h k X Y)) = z at *
  generalize FC g h k (AC g h k X) Y * cH j i Y + FC g h k X (AC g h k Y) * cH j i X + -1 * cH j i (XC g h k (AC g h k X) (AC g h k Y)) = y at *
  clear pp mm
  have e : iv * (2 * z) = iv * (2 * y) := by rw [s]
  have e2 : ∀ q : Fin n, iv * (2 * q) = 2 * iv * q := fun q => by grind
  rw [e2, e2, hiv] at e
  grind
end
end Go.Proofs.YtacfanjejaellaaGreat
