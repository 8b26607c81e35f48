/- Texts joined for a claim: OctP, OctQ, OctR, OctS, OctT, OctU, HcU. -/
import Derived.Test.YtacfanjejaellaaGreatJbo
import Derived.Test.YtacfanjejaellaaGreatHcT
import Derived.Test.YtacfanjejaellaaGreatJbg
/-
  The Jordan product by the cross; coordinates of matrices; the Jordan identity.
-/
namespace Go.Proofs.YtacfanjejaellaaGreat

section
variable {n : Nat} [NeZero n]
/-- A coordinate. -/
def cO (i : Nat) (x : Oc n) : Fin n := match i with
  | 0 => x.a0
  | 1 => x.a1
  | 2 => x.a2
  | 3 => x.a3
  | 4 => x.a4
  | 5 => x.a5
  | 6 => x.a6
  | _ => x.a7
def cH (j i : Nat) (X : H3 n) : Fin n := match j with
  | 0 => X.a
  | 1 => X.b
  | 2 => X.c
  | 3 => cO i X.u
  | 4 => cO i X.v
  | _ => cO i X.t
omit [NeZero n] in
theorem cO_ext {x y : Oc n} (h : ∀ i, cO i x = cO i y) : x = y := Oc.ext (h 0) (h 1) (h 2) (h 3) (h 4) (h 5) (h 6) (h 7)
omit [NeZero n] in
theorem cH_ext {X Y : H3 n} (h : ∀ j i, cH j i X = cH j i Y) : X = Y := H3.ext (h 0 0) (h 1 0) (h 2 0) (cO_ext (h 3)) (cO_ext (h 4)) (cO_ext (h 5))
theorem cO_osc (i : Nat) (c : Fin n) (x : Oc n) : cO i (osc c x) = c * cO i x := by have _h : NeZero n := inferInstance; unfold cO; split <;> rfl
theorem cO_oad (i : Nat) (x y : Oc n) : cO i (oad x y) = cO i x + cO i y := by have _h : NeZero n := inferInstance; unfold cO; split <;> rfl
theorem cH_SC (j i : Nat) (X : H3 n) (m : Fin n) (Y : H3 n) : cH j i (SC X m Y) = cH j i X + m * cH j i Y := by
  unfold cH SC
  split <;> first | rfl | (dsimp only; rw [cO_oad, cO_osc])
theorem cH_MC (j i : Nat) (m : Fin n) (Y : H3 n) : cH j i (MC m Y) = m * cH j i Y := by
  unfold cH MC
  split <;> first | rfl | (dsimp only; rw [cO_osc])
variable (g h k : Fin n)
theorem XC_lin (X Y Z : H3 n) (m : Fin n) : XC g h k X (SC Y m Z) = SC (XC g h k X Y) m (XC g h k X Z) := by
  unfold XC SC
  simp only [omul_addl, omul_addr, omul_oscl, omul_oscr, odt_addl, odt_addr, odt_oscl, odt_oscr, ocj_oad, ocj_osc]
  apply H3.ext
  · dsimp only; grind
  · dsimp only; grind
  · dsimp only; grind
  · dsimp only [oad, osc, ocj]; apply Oc.ext <;> grind
  · dsimp only [oad, osc, ocj]; apply Oc.ext <;> grind
  · dsimp only [oad, osc, ocj]; apply Oc.ext <;> grind
theorem XC_smul (X Y : H3 n) (m : Fin n) : XC g h k X (MC m Y) = MC m (XC g h k X Y) := by
  unfold XC MC
  simp only [omul_addl, omul_addr, omul_oscl, omul_oscr, odt_addl, odt_addr, odt_oscl, odt_oscr, ocj_oad, ocj_osc]
  apply H3.ext
  · dsimp only; grind
  · dsimp only; grind
  · dsimp only; grind
  · dsimp only [oad, osc, ocj]; apply Oc.ext <;> grind
  · dsimp only [oad, osc, ocj]; apply Oc.ext <;> grind
  · dsimp only [oad, osc, ocj]; apply Oc.ext <;> grind
theorem FC_lin (X Y Z : H3 n) (m : Fin n) : FC g h k X (SC Y m Z) = FC g h k X Y + m * FC g h k X Z := by
  unfold FC SC
  simp only [odt_addr, odt_oscr]
  grind
theorem FC_smul (X Y : H3 n) (m : Fin n) : FC g h k X (MC m Y) = m * FC g h k X Y := by
  unfold FC MC
  simp only [odt_oscr]
  grind
theorem FC_one (X : H3 n) : FC g h k X one3 = TC X := by
  unfold FC one3 TC ore odt
  grind
theorem XC_one (X : H3 n) : XC g h k X one3 = SC (MC (TC X) one3) (-1) X := by
  unfold XC one3 SC MC TC ore odt
  apply H3.ext
  · dsimp only; grind
  · dsimp only; grind
  · dsimp only; grind
  · dsimp only [oad, osc, ocj, omul]; apply Oc.ext <;> grind
  · dsimp only [oad, osc, ocj, omul]; apply Oc.ext <;> grind
  · dsimp only [oad, osc, ocj, omul]; apply Oc.ext <;> grind
/-- The product by the cross. -/
theorem JC_X (iv : Fin n) (hiv : 2 * iv = 1) (X Y : H3 n) : JC g h k iv X Y = MC iv (SC (SC (SC (XC g h k X Y) (TC X) Y) (TC Y) X) (FC g h k X Y - TC X * TC Y) one3) := by
  have e1 := odt_comm g h k X.u Y.u
  have e2 := odt_comm g h k X.v Y.v
  have e3 := odt_comm g h k X.t Y.t
  unfold JC MC SC XC TC FC one3 ore
  apply H3.ext
  · dsimp only; grind
  · dsimp only; grind
  · dsimp only; grind
  · dsimp only [oad, osc, ocj]; apply Oc.ext <;> grind
  · dsimp only [oad, osc, ocj]; apply Oc.ext <;> grind
  · dsimp only [oad, osc, ocj]; apply Oc.ext <;> grind
theorem TC_JC (iv : Fin n) (X Y : H3 n) : TC (JC g h k iv X Y) = FC g h k X Y := by unfold TC JC FC; grind
theorem JC_lin (iv : Fin n) (X Y Z : H3 n) (m : Fin n) : JC g h k iv X (SC Y m Z) = SC (JC g h k iv X Y) m (JC g h k iv X Z) := by
  unfold JC SC
  simp only [omul_addl, omul_addr, omul_oscl, omul_oscr, odt_addl, odt_addr, odt_oscl, odt_oscr, ocj_oad, ocj_osc]
  apply H3.ext
  · dsimp only; grind
  · dsimp only; grind
  · dsimp only; grind
  · dsimp only [oad, osc, ocj]; apply Oc.ext <;> grind
  · dsimp only [oad, osc, ocj]; apply Oc.ext <;> grind
  · dsimp only [oad, osc, ocj]; apply Oc.ext <;> grind
theorem JC_comm (iv : Fin n) (X Y : H3 n) : JC g h k iv X Y = JC g h k iv Y X := by
  have e1 := odt_comm g h k X.u Y.u
  have e2 := odt_comm g h k X.v Y.v
  have e3 := odt_comm g h k X.t Y.t
  unfold JC
  apply H3.ext
  · dsimp only; grind
  · dsimp only; grind
  · dsimp only; grind
  · dsimp only [oad, osc, ocj]; apply Oc.ext <;> grind
  · dsimp only [oad, osc, ocj]; apply Oc.ext <;> grind
  · dsimp only [oad, osc, ocj]; apply Oc.ext <;> grind
end
end Go.Proofs.YtacfanjejaellaaGreat
/-
  The Jordan identity, the equation of the characteristic numbers, and the inverse.
-/
namespace Go.Proofs.YtacfanjejaellaaGreat

section
variable {n : Nat} [NeZero n] (g h k : Fin n)
theorem FC_adj (X : H3 n) : FC g h k (AC g h k X) X = 3 * NC g h k X := by
  have c1 := cyc g h k X.v X.u X.t
  have c2 := cyc g h k X.t X.v X.u
  have p1 := odt_comm g h k (omul g h k (ocj X.t) (ocj X.v)) X.u
  have p2 := odt_comm g h k (omul g h k (ocj X.u) (ocj X.t)) X.v
  have p3 := odt_comm g h k (omul g h k (ocj X.v) (ocj X.u)) X.t
  unfold FC AC NC
  simp only [onm_odt, odt_addl, odt_oscl, ocj_mul]
  grind
theorem XC_adj (X : H3 n) : XC g h k X (AC g h k X) = SC (SC (MC (TC (AC g h k X) * TC X - NC g h k X) one3) (-(TC (AC g h k X))) X) (-(TC X)) (AC g h k X) := by
  have b := XB g h k X one3
  rw [XC_one, FC_one] at b
  generalize AC g h k X = Z at *
  have e : XC g h k X (SC (MC (TC Z) one3) (-1) Z) = SC (MC (TC Z) (XC g h k X one3)) (-1) (XC g h k X Z) := by rw [XC_lin, XC_smul]
  rw [e, XC_one] at b
  refine cH_ext fun j i => ?_
  have bb := congrArg (cH j i) b
  simp only [cH_SC, cH_MC] at bb ⊢
  grind
/-- A matrix times its adjoint is the determinant. -/
theorem JC_AC (iv : Fin n) (hiv : 2 * iv = 1) (X : H3 n) : JC g h k iv X (AC g h k X) = MC (NC g h k X) one3 := by
  have f := FC_adj g h k X
  rw [FC_comm] at f
  rw [JC_X g h k iv hiv, XC_adj, f]
  refine cH_ext fun j i => ?_
  simp only [cH_SC, cH_MC]
  grind
/-- The form is associative. -/
theorem FC_JC (iv : Fin n) (hiv : 2 * iv = 1) (X Y Z : H3 n) : FC g h k (JC g h k iv X Y) Z = FC g h k X (JC g h k iv Y Z) := by
  have s := FX_sym g h k X Y Z
  rw [JC_X g h k iv hiv X Y, JC_X g h k iv hiv Y Z, FC_comm g h k _ Z]
  simp only [FC_lin, FC_smul, FC_one]
  rw [FC_comm g h k Z (XC g h k X Y), s, FC_comm g h k Z X, FC_comm g h k Z Y]
  grind
/-- The adjoint of the adjoint. -/
theorem AC_AC (iv : Fin n) (hiv : 2 * iv = 1) (X : H3 n) : AC g h k (AC g h k X) = MC (NC g h k X) X := by
  have hx : ∀ W : H3 n, XC g h k W W = MC 2 (AC g h k W) := fun W => by
    unfold XC AC MC
    simp only [onm_odt]
    apply H3.ext
    · dsimp only; grind
    · dsimp only; grind
    · dsimp only; grind
    · dsimp only [oad, osc, ocj]; apply Oc.ext <;> grind
    · dsimp only [oad, osc, ocj]; apply Oc.ext <;> grind
    · dsimp only [oad, osc, ocj]; apply Oc.ext <;> grind
  have a := XA g h k X X
  rw [hx, XC_smul, hx, FC_adj] at a
  refine cH_ext fun j i => ?_
  have aa := congrArg (cH j i) a
  simp only [cH_SC, cH_MC] at aa ⊢
  have h4 : iv * iv * 4 = 1 := by grind
  generalize cH j i (AC g h k (AC g h k X)) = z at *
  generalize cH j i X = x at *
  generalize NC g h k X = m at *
  have e1 : iv * iv * (2 * (2 * z)) = iv * iv * (m * x + 3 * m * x) := by rw [aa]
  have e2 : iv * iv * (2 * (2 * z)) = iv * iv * 4 * z := by clear e1 aa h4; grind
  have e3 : iv * iv * (m * x + 3 * m * x) = iv * iv * 4 * (m * x) := by clear e1 e2 aa h4; grind
  rw [e2, e3, h4] at e1
  clear e2 e3 h4 aa
  grind
end
end Go.Proofs.YtacfanjejaellaaGreat
/-
  The quadratic map: its adjoint, its determinant, and the law of three maps.
-/
namespace Go.Proofs.YtacfanjejaellaaGreat

section
variable {n : Nat} [NeZero n] (g h k : Fin n)
def UC (X Y : H3 n) : H3 n := SC (MC (FC g h k X Y) X) (-1) (XC g h k (AC g h k X) Y)
theorem AC_SC (X Y : H3 n) (s : Fin n) : AC g h k (SC X s Y) = SC (SC (AC g h k X) s (XC g h k X Y)) (s * s) (AC g h k Y) := by
  have e1 := odt_comm g h k X.u Y.u
  have e2 := odt_comm g h k X.v Y.v
  have e3 := odt_comm g h k X.t Y.t
  unfold AC SC XC
  simp only [onm_odt, omul_addl, omul_addr, omul_oscl, omul_oscr, odt_addl, odt_addr, odt_oscl, odt_oscr, ocj_oad, ocj_osc]
  apply H3.ext
  · dsimp only; grind
  · dsimp only; grind
  · dsimp only; grind
  · dsimp only [oad, osc, ocj]; apply Oc.ext <;> grind
  · dsimp only [oad, osc, ocj]; apply Oc.ext <;> grind
  · dsimp only [oad, osc, ocj]; apply Oc.ext <;> grind
theorem XC_linl (X Y Z : H3 n) (m : Fin n) : XC g h k (SC Y m Z) X = SC (XC g h k Y X) m (XC g h k Z X) := by
  rw [XC_comm, XC_lin, XC_comm g h k X Y, XC_comm g h k X Z]
theorem XC_smull (X Y : H3 n) (m : Fin n) : XC g h k (MC m Y) X = MC m (XC g h k Y X) := by
  rw [XC_comm, XC_smul, XC_comm]
theorem FC_smull (X Y : H3 n) (m : Fin n) : FC g h k (MC m Y) X = m * FC g h k Y X := by
  rw [FC_comm, FC_smul, FC_comm]
theorem NC_SC (X Y : H3 n) (s : Fin n) : NC g h k (SC X s Y) = NC g h k X + s * FC g h k (AC g h k X) Y + s * s * FC g h k X (AC g h k Y) + s * s * s * NC g h k Y := by
  obtain ⟨a, b, c, u, v, t⟩ := X
  obtain ⟨a', b', c', u', v', t'⟩ := Y
  simp only [NC, SC, FC, AC, onm_odt, ocj_oad, ocj_osc, ocj_mul, omul_addl, omul_addr, omul_oscl, omul_oscr, odt_addl, odt_addr, odt_oscl, odt_oscr]
  have p1 := odt_comm g h k (omul g h k (ocj t) (ocj v)) u'
  have p2 := odt_comm g h k (omul g h k (ocj u) (ocj t)) v'
  have p3 := odt_comm g h k (omul g h k (ocj v) (ocj u)) t'
  have q1 := cyc g h k v' u t
  have q2 := cyc g h k t' v u
  have q3 := cyc g h k v u t'
  have r1 := cyc g h k v u' t'
  have r2 := cyc g h k u' t' v
  have r3 := cyc g h k t v' u'
  have r4 := cyc g h k v' u' t
  have d1 := odt_comm g h k u u'
  have d2 := odt_comm g h k v v'
  have d3 := odt_comm g h k t t'
  grind
/-- The adjoint of a cross. -/
theorem AC_XC (iv : Fin n) (hiv : 2 * iv = 1) (X Y : H3 n) : AC g h k (XC g h k X Y) = SC (SC (MC (FC g h k (AC g h k X) Y) Y) (FC g h k X (AC g h k Y)) X) (-1) (XC g h k (AC g h k X) (AC g h k Y)) := by
  have p := AC_AC g h k iv hiv (SC X 1 Y)
  have m := AC_AC g h k iv hiv (SC X (-1) Y)
  have x := AC_AC g h k iv hiv X
  have y := AC_AC g h k iv hiv Y
  rw [AC_SC, AC_SC, AC_SC] at p m
  rw [NC_SC] at p m
  simp only [XC_linl, XC_lin] at p m
  rw [x, y] at p m
  refine cH_ext fun j i => ?_
  have pp := congrArg (cH j i) p
  have mm := congrArg (cH j i) m
  clear p m x y
  simp only [cH_SC, cH_MC] at pp mm ⊢
  have s : 2 * cH j i (AC g h k (XC g h k X Y)) = 2 * (FC g h k (AC g h k X) Y * cH j i Y + FC g h k X (AC g h k Y) * cH j i X + -1 * cH j i (XC g h k (AC g h k X) (AC g h k Y))) := by grind
  generalize cH j i (AC g h k (XC g h k X Y)) = z at *
  generalize FC g h k (AC g h k X) Y * cH j i Y + FC g h k X (AC g h k Y) * cH j i X + -1 * cH j i (XC g h k (AC g h k X) (AC g h k Y)) = y at *
  clear pp mm
  have e : iv * (2 * z) = iv * (2 * y) := by rw [s]
  have e2 : ∀ q : Fin n, iv * (2 * q) = 2 * iv * q := fun q => by grind
  rw [e2, e2, hiv] at e
  grind
end
end Go.Proofs.YtacfanjejaellaaGreat
/-
  The quadratic map: the law of three maps, and the adjoint of its values.
-/
namespace Go.Proofs.YtacfanjejaellaaGreat

section
variable {n : Nat} [NeZero n] (g h k : Fin n)
theorem MC_MC (m m' : Fin n) (X : H3 n) : MC m (MC m' X) = MC (m * m') X := by
  refine cH_ext fun j i => ?_
  simp only [cH_MC]; grind
theorem NC_MC (m : Fin n) (X : H3 n) : NC g h k (MC m X) = m * m * m * NC g h k X := by
  unfold NC MC
  simp only [ocj_osc, omul_oscl, omul_oscr, odt_oscl, odt_oscr]
  grind
/-- The adjoint of the quadratic map's value. -/
theorem AC_UC (iv : Fin n) (hiv : 2 * iv = 1) (X Y : H3 n) : AC g h k (UC g h k X Y) = UC g h k (AC g h k X) (AC g h k Y) := by
  have b := XB g h k X Y
  have c := AC_XC g h k iv hiv (AC g h k X) Y
  have x := AC_AC g h k iv hiv X
  rw [x] at c
  unfold UC
  rw [AC_SC, AC_mult, XC_smull, b, c, x]
  simp only [XC_smull, FC_smull]
  refine cH_ext fun j i => ?_
  simp only [cH_SC, cH_MC]
  grind
theorem XC_self (X : H3 n) : XC g h k X X = MC 2 (AC g h k X) := by
  unfold XC AC MC
  simp only [onm_odt]
  apply H3.ext
  · dsimp only; grind
  · dsimp only; grind
  · dsimp only; grind
  · dsimp only [oad, osc, ocj]; apply Oc.ext <;> grind
  · dsimp only [oad, osc, ocj]; apply Oc.ext <;> grind
  · dsimp only [oad, osc, ocj]; apply Oc.ext <;> grind
theorem UC_smul (X A : H3 n) (m : Fin n) : UC g h k X (MC m A) = MC m (UC g h k X A) := by
  unfold UC
  rw [FC_smul, XC_smul]
  refine cH_ext fun j i => ?_
  simp only [cH_SC, cH_MC]; grind
/-- Back by the map of the adjoint. -/
theorem UC_back (iv : Fin n) (hiv : 2 * iv = 1) (X Y : H3 n) : UC g h k (AC g h k X) (UC g h k X Y) = MC (NC g h k X * NC g h k X) Y := by
  have x := AC_AC g h k iv hiv X
  have a := XA g h k X (XC g h k (AC g h k X) Y)
  have b := XB g h k X Y
  have xa := XC_adj g h k X
  have f := FC_adj g h k X
  have f2 : FC g h k (AC g h k X) (XC g h k (AC g h k X) Y) = 2 * NC g h k X * FC g h k X Y := by
    rw [← FX_sym, XC_self, x, FC_smull, FC_smull]; grind
  unfold UC
  rw [x]
  simp only [XC_lin, XC_smul, XC_linl, XC_smull, FC_lin, FC_smul, b, f, f2, XC_self]
  refine cH_ext fun j i => ?_
  simp only [cH_SC, cH_MC]
  clear x a b xa f f2
  grind
end
end Go.Proofs.YtacfanjejaellaaGreat
/-
  The determinant of the quadratic map's value; the quadratic map by products.
-/
namespace Go.Proofs.YtacfanjejaellaaGreat

section
variable {n : Nat} [NeZero n] (g h k : Fin n)
/-- No divisors of 0. -/
def Fld (n : Nat) [NeZero n] : Prop := ∀ a b : Fin n, a * b = 0 → a = 0 ∨ b = 0
theorem NC_UC (hf : Fld n) (iv : Fin n) (hiv : 2 * iv = 1) (X Y : H3 n) : NC g h k (UC g h k X Y) = NC g h k X * NC g h k X * NC g h k Y := by
  have u := AC_AC g h k iv hiv (UC g h k X Y)
  have x := AC_AC g h k iv hiv X
  have y := AC_AC g h k iv hiv Y
  have b := UC_back g h k iv hiv X Y
  rw [AC_UC g h k iv hiv, AC_UC g h k iv hiv, x, y, UC_smul] at u
  have e : UC g h k (MC (NC g h k X) X) Y = MC (NC g h k X * NC g h k X) (UC g h k X Y) := by
    unfold UC
    rw [FC_smull, AC_mult, XC_smull]
    refine cH_ext fun j i => ?_
    simp only [cH_SC, cH_MC]; grind
  rw [e, MC_MC] at u
  by_cases hz : ∀ j i, cH j i (UC g h k X Y) = 0
  · have z : UC g h k X Y = MC 0 (UC g h k X Y) := cH_ext fun j i => by rw [cH_MC, hz]; grind
    have n0 : NC g h k (UC g h k X Y) = 0 := by rw [z, NC_MC]; grind
    rw [n0]
    by_cases hN : NC g h k X * NC g h k X = 0
    · rw [hN]; grind
    · have y0 : Y = MC 0 Y := cH_ext fun j i => by
        have bb := congrArg (cH j i) b
        rw [cH_MC] at bb
        have l0 : cH j i (UC g h k (AC g h k X) (UC g h k X Y)) = 0 := by
          rw [z, UC_smul, cH_MC]; grind
        rw [l0] at bb
        rcases hf _ _ bb.symm with q | q
        · exact absurd q hN
        · rw [cH_MC, q]; grind
      have ny : NC g h k Y = 0 := by rw [y0, NC_MC]; grind
      rw [ny]; grind
  · obtain ⟨j, hz⟩ := Classical.not_forall.1 hz
    obtain ⟨i, hz⟩ := Classical.not_forall.1 hz
    have uu := congrArg (cH j i) u
    rw [cH_MC, cH_MC] at uu
    have d : (NC g h k (UC g h k X Y) - NC g h k X * NC g h k X * NC g h k Y) * cH j i (UC g h k X Y) = 0 := by grind
    rcases hf _ _ d with q | q
    · grind
    · exact absurd q hz
theorem UC_one (iv : Fin n) (hiv : 2 * iv = 1) (X : H3 n) : UC g h k X one3 = JC g h k iv X X := by
  rw [sq_id g h k iv hiv]
  unfold UC
  rw [FC_one, XC_one]
  refine cH_ext fun j i => ?_
  simp only [cH_SC, cH_MC]; grind
theorem NC_one : NC g h k (one3 : H3 n) = 1 := by unfold NC one3 ore odt omul ocj; grind
theorem NC_sq (hf : Fld n) (iv : Fin n) (hiv : 2 * iv = 1) (X : H3 n) : NC g h k (JC g h k iv X X) = NC g h k X * NC g h k X := by
  rw [← UC_one g h k iv hiv, NC_UC g h k hf iv hiv, NC_one]; grind
end
end Go.Proofs.YtacfanjejaellaaGreat
/-
  Determinants and units over octonions modulo n; fields.
-/
namespace Go.Proofs.YtacfanjejaellaaGreat

section
variable {n : Nat} [NeZero n]
theorem omul_re2 (g h k : Fin n) (x y : Oc n) : (omul g h k x y).a0 = odt g h k x (ocj y) := by
  have e := omul_re g h k x (ocj y)
  rw [ocj_ocj] at e; exact e
theorem toF_det {p : Int} {st : List Int} {X : Her} (hp : p = n) (hp1 : 2 ≤ p) (hst : st.length ≤ 3) (hX : isH p (sz st.length) X = true) :
    toF n (detH p st X) = NC (gam n st 0) (gam n st 1) (gam n st 2) (toH n X) := by
  obtain ⟨eu, ev, et⟩ := isH_rows hX
  have em := mulL_ev (p := p) (by omega) eu ev
  have md : ∀ z : Int, toF n (z % p) = toF n z := fun z => by rw [hp]; exact toF_mod n z
  unfold detH cycL NC
  rw [md, toF_sub, toF_sub, toF_sub, toF_add, md]
  simp only [toF_mul, toF_norm hp hp1 hst eu, toF_norm hp hp1 hst ev, toF_norm hp hp1 hst et, onm_odt, toF_two]
  rw [getD_toO, toO_mul hp hst em.1 et.1, toO_mul hp hst eu.1 ev.1, omul_re2, odt_movr]
  rfl
theorem toH_unit {m : Nat} : toH n (unitH m) = one3 := by
  have z : toO n (List.replicate m 0) = ore 0 := toO_zeros
  unfold toH unitH one3
  apply H3.ext
  · exact toF_one n
  · exact toF_one n
  · exact toF_one n
  · exact z
  · exact z
  · exact z
end
theorem fld3 : Fld 3 := by unfold Fld; decide
theorem fld5 : Fld 5 := by unfold Fld; decide
theorem fld7 : Fld 7 := by unfold Fld; decide
theorem fld11 : Fld 11 := by unfold Fld; decide
theorem fld13 : Fld 13 := by unfold Fld; decide
end Go.Proofs.YtacfanjejaellaaGreat
/-
  First places other than 0, rows and matrices of zeros, equality of rows.
-/
namespace Go.Proofs.YtacfanjejaellaaGreat
open Go.RowKit

def leadN : List Int → Nat
  | [] => 0
  | x :: xs => if x = 0 then leadN xs + 1 else 0
theorem leadN_le : ∀ xs : List Int, leadN xs ≤ xs.length
  | [] => Nat.le_refl _
  | x :: xs => by
    unfold leadN
    have := leadN_le xs
    split <;> simp <;> omega
theorem drop_lead {xs : List Int} {k : Nat} (h : k < xs.length) : leadN (xs.drop k) = if xs[k] = 0 then leadN (xs.drop (k + 1)) + 1 else 0 := by
  rw [List.drop_eq_getElem_cons h]; rfl
theorem isZ_lead : ∀ xs : List Int, isZ xs = decide (leadN xs = xs.length)
  | [] => rfl
  | x :: xs => by
    have := isZ_lead xs
    unfold isZ at *
    rw [List.all_cons, this]
    show ((x == 0) && decide (leadN xs = xs.length)) = decide ((if x = 0 then leadN xs + 1 else 0) = xs.length + 1)
    by_cases h : x = 0
    · rw [if_pos h, h]; simp
    · have hb : (x == 0) = false := by simpa using h
      rw [hb, if_neg h]; simp
theorem lead_c {x : Value} {xs : List Int} {w : World} (hx : Sl w x xs) (hm : xs.length ≤ 1000000) :
    Calls Tryz.prog 69 #[x] w fun e w' => e = .returned (.int .i64 (leadN xs)) ∧ w = w' := by
  obtain ⟨a, c, rfl, rfl | ⟨b, off, rfl, hx⟩⟩ := hx
  · go_enter Tryz.func69, Tryz.ntmps69
    go_wp2
    refine wp_loop_rounds 1 ?_; rw [rounds_succ]
    go_wp2
    go_ret
    exact ⟨rfl, rfl⟩
  go_enter Tryz.func69, Tryz.ntmps69
  go_wp2
  go_loop [3] (fun i => ∃ k : Nat, k ≤ xs.length ∧ i = .int .i64 k ∧ leadN xs = k + leadN (xs.drop k)) (fun i => xs.length - (intOf i).toNat)
  case atStart => exact ⟨0, Nat.zero_le _, rfl, by simp⟩
  case round =>
    obtain ⟨k, hk, rfl, hr⟩ := hrel
    by_cases hlt : k < xs.length
    · obtain ⟨u, hu, hcx, htx⟩ := hx.get hlt
      have hd := drop_lead hlt
      have hcx2 := hx.get' hlt
      obtain ⟨q, hq⟩ : ∃ q, q = xs[k] := ⟨_, rfl⟩
      rw [← hq] at hd hcx2
      have HR := Lib.hid hr; have HD := Lib.hid hd
      clear hr hd htx hcx hq hu u
      by_cases h0 : q = 0
      · subst h0
        go_wp2
        go_round
        case rel => exact ⟨k + 1, by omega, by go_num, by rw [HR.out, HD.out, if_pos rfl]; omega⟩
        case measure => simp [intOf]; omega
      · have hne : (q == 0) = false := by simpa using h0
        go_wp2
        go_ret
        exact ⟨by rw [HR.out, HD.out, if_neg h0]; rfl, rfl⟩
    · obtain rfl : k = xs.length := by omega
      rw [List.drop_length] at hr
      have HR := Lib.hid hr; clear hr
      go_wp2
      go_ret
      exact ⟨by rw [HR.out]; rfl, rfl⟩
theorem iszero_c {x : Value} {xs : List Int} {w : World} (hx : Sl w x xs) (hm : xs.length ≤ 1000000) :
    Calls Tryz.prog 94 #[x] w fun e w' => e = .returned (.bool (isZ xs)) ∧ w = w' := by
  obtain ⟨a, c, rfl, hx'⟩ := id hx
  have hle := leadN_le xs
  have hz := isZ_lead xs
  have hb : ((leadN xs : Int) == (xs.length : Int)) = decide (leadN xs = xs.length) := by
    by_cases h : leadN xs = xs.length
    · simp [h]
    · have h2 : ((leadN xs : Int) == (xs.length : Int)) = false := by rw [beq_eq_false_iff_ne]; omega
      rw [h2, decide_eq_false h]
  have HZ := Lib.hid (hz.trans hb.symm); clear hz hb
  go_enter Tryz.func94, Tryz.ntmps94
  go_wp2_with (go_at_call 69; refine (lead_c hx hm).mono ?_; rintro e w1 ⟨rfl, rfl⟩)
  go_ret
  exact ⟨by rw [HZ.out]; rfl, rfl⟩
end Go.Proofs.YtacfanjejaellaaGreat
