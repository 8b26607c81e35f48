/- Texts joined for a claim: OctS, OctT, OctU, HcU, HcV, HcW, HcX. -/
import Derived.Test.YtacfanjejaellaaGreatJbs
import Derived.Test.YtacfanjejaellaaGreatHcT
import Derived.Test.YtacfanjejaellaaGreatJbi
/-
  The quadratic map: the law of three maps, and the adjoint of its values.
-/
namespace Go.Proofs.YtacfanjejaellaaGreat

section
variable {n : Nat} [NeZero n] (g h k : Fin n)
theorem MC_MC (m m' : Fin n) (X : H3 n) : MC m (MC m' X) = MC (m * m') X := by
  refine cH_ext fun j i => ?_
  simp only [cH_MC]; grind
theorem NC_MC (m : Fin n) (X : H3 n) : NC g h k (MC m X) = m * m * m * NC g h k X := by
  unfold NC MC
  simp only [ocj_osc, omul_oscl, omul_oscr, odt_oscl, odt_oscr]
  grind
/-- The adjoint of the quadratic map's value. -/
theorem AC_UC (iv : Fin n) (hiv : 2 * iv = 1) (X Y : H3 n) : AC g h k (UC g h k X Y) = UC g h k (AC g h k X) (AC g h k Y) := by
  have b := XB g h k X Y
  have c := AC_XC g h k iv hiv (AC g h k X) Y
  have x := AC_AC g h k iv hiv X
  rw [x] at c
  unfold UC
  rw [AC_SC, AC_mult, XC_smull, b, c, x]
  simp only [XC_smull, FC_smull]
  refine cH_ext fun j i => ?_
  simp only [cH_SC, cH_MC]
  grind
theorem FC_UC (X Y Z : H3 n) : FC g h k (UC g h k X Y) Z = FC g h k Y (UC g h k X Z) := by
  have s := FX_sym g h k Y (AC g h k X) Z
  unfold UC
  rw [FC_linl, FC_smull, FC_lin, FC_smul, XC_comm g h k (AC g h k X) Y, s, FC_comm g h k Y X]
  grind
/-- The linear form of (B): X is replaced by X and W. -/
theorem XB_lin (iv : Fin n) (hiv : 2 * iv = 1) (X W Y : H3 n) : SC (XC g h k W (XC g h k (AC g h k X) Y)) 1 (XC g h k X (XC g h k (XC g h k X W) Y)) =
    SC (SC (MC (FC g h k (AC g h k X) W) Y) (FC g h k W Y) (AC g h k X)) (FC g h k X Y) (XC g h k X W) := by
  have p := XB g h k (SC X 1 W) Y
  have m := XB g h k (SC X (-1) W) Y
  have x := XB g h k X Y
  have w := XB g h k W Y
  rw [AC_SC, NC_SC] at p m
  simp only [XC_linl, XC_lin, FC_linl] at p m
  rw [x, w] at p m
  refine cH_ext fun j i => ?_
  have pp := congrArg (cH j i) p
  have mm := congrArg (cH j i) m
  clear p m x w
  simp only [cH_SC, cH_MC] at pp mm ⊢
  generalize cH j i (XC g h k W (XC g h k (AC g h k X) Y)) = A at *
  generalize cH j i (XC g h k X (XC g h k (XC g h k X W) Y)) = B at *
  have s : 2 * (A + 1 * B) = 2 * (FC g h k (AC g h k X) W * cH j i Y + FC g h k W Y * cH j i (AC g h k X) + FC g h k X Y * cH j i (XC g h k X W)) := by grind
  have e : iv * (2 * (A + 1 * B)) = iv * (2 * (FC g h k (AC g h k X) W * cH j i Y + FC g h k W Y * cH j i (AC g h k X) + FC g h k X Y * cH j i (XC g h k X W))) := by rw [s]
  have e2 : ∀ q : Fin n, iv * (2 * q) = 2 * iv * q := fun q => by grind
  rw [e2, e2, hiv] at e
  clear pp mm s e2
  grind
theorem XC_self (X : H3 n) : XC g h k X X = MC 2 (AC g h k X) := by
  unfold XC AC MC
  simp only [onm_odt]
  apply H3.ext
  · dsimp only; grind
  · dsimp only; grind
  · dsimp only; grind
  · dsimp only [oad, osc, ocj]; apply Oc.ext <;> grind
  · dsimp only [oad, osc, ocj]; apply Oc.ext <;> grind
  · dsimp only [oad, osc, ocj]; apply Oc.ext <;> grind
theorem UC_lin (X A B : H3 n) (m : Fin n) : UC g h k X (SC A m B) = SC (UC g h k X A) m (UC g h k X B) := by
  unfold UC
  rw [FC_lin, XC_lin]
  refine cH_ext fun j i => ?_
  simp only [cH_SC, cH_MC]; grind
theorem UC_smul (X A : H3 n) (m : Fin n) : UC g h k X (MC m A) = MC m (UC g h k X A) := by
  unfold UC
  rw [FC_smul, XC_smul]
  refine cH_ext fun j i => ?_
  simp only [cH_SC, cH_MC]; grind
/-- What the map of X makes of a cross. -/
theorem UC_XC (iv : Fin n) (hiv : 2 * iv = 1) (X W Z : H3 n) : UC g h k X (XC g h k W (UC g h k X Z)) = XC g h k (UC g h k (AC g h k X) W) Z := by
  have x := AC_AC g h k iv hiv X
  have l := XB_lin g h k iv hiv (AC g h k X) Z W
  have a := XA g h k X W
  have b := XB g h k X Z
  have wx := XC_comm g h k W X
  have wz := XC_comm g h k W (XC g h k (AC g h k X) Z)
  have zz := XC_comm g h k Z (XC g h k X W)
  have t1 : FC g h k X (XC g h k X W) = 2 * FC g h k (AC g h k X) W := by rw [← FX_sym, XC_self, FC_smull]
  have t2 : FC g h k X (XC g h k (XC g h k (AC g h k X) Z) W) = NC g h k X * FC g h k W Z + FC g h k X Z * FC g h k (AC g h k X) W := by
    rw [← FX_sym, b, FC_linl, FC_smull, FC_comm g h k Z W]
  have t3 := FC_comm g h k Z W
  rw [x] at l
  simp only [XC_smull, XC_smul, FC_smull] at l
  rw [zz, t3] at l
  unfold UC
  simp only [XC_lin, XC_smul, XC_linl, XC_smull, FC_lin, FC_smul, x, wx, wz, t1, t2, a]
  refine cH_ext fun j i => ?_
  have ll := congrArg (cH j i) l
  simp only [cH_SC, cH_MC] at ll ⊢
  clear l a b wx wz zz t1 t2 t3 x
  grind
/-- The law of three maps. -/
theorem UC3 (iv : Fin n) (hiv : 2 * iv = 1) (X Y Z : H3 n) : UC g h k (UC g h k X Y) Z = UC g h k X (UC g h k Y (UC g h k X Z)) := by
  have u := AC_UC g h k iv hiv X Y
  have f := FC_UC g h k X Y Z
  have d := UC_XC g h k iv hiv X (AC g h k Y) Z
  have e1 : UC g h k (UC g h k X Y) Z = SC (MC (FC g h k (UC g h k X Y) Z) (UC g h k X Y)) (-1) (XC g h k (AC g h k (UC g h k X Y)) Z) := rfl
  have e2 : UC g h k Y (UC g h k X Z) = SC (MC (FC g h k Y (UC g h k X Z)) Y) (-1) (XC g h k (AC g h k Y) (UC g h k X Z)) := rfl
  rw [e1, e2, UC_lin, UC_smul, d, u, f]
/-- Back by the map of the adjoint. -/
theorem UC_back (iv : Fin n) (hiv : 2 * iv = 1) (X Y : H3 n) : UC g h k (AC g h k X) (UC g h k X Y) = MC (NC g h k X * NC g h k X) Y := by
  have x := AC_AC g h k iv hiv X
  have a := XA g h k X (XC g h k (AC g h k X) Y)
  have b := XB g h k X Y
  have xa := XC_adj g h k X
  have f := FC_adj g h k X
  have f2 : FC g h k (AC g h k X) (XC g h k (AC g h k X) Y) = 2 * NC g h k X * FC g h k X Y := by
    rw [← FX_sym, XC_self, x, FC_smull, FC_smull]; grind
  unfold UC
  rw [x]
  simp only [XC_lin, XC_smul, XC_linl, XC_smull, FC_lin, FC_smul, b, f, f2, XC_self]
  refine cH_ext fun j i => ?_
  simp only [cH_SC, cH_MC]
  clear x a b xa f f2
  grind
end
end Go.Proofs.YtacfanjejaellaaGreat
/-
  The determinant of the quadratic map's value; the quadratic map by products.
-/
namespace Go.Proofs.YtacfanjejaellaaGreat

section
variable {n : Nat} [NeZero n] (g h k : Fin n)
/-- No divisors of 0. -/
def Fld (n : Nat) [NeZero n] : Prop := ∀ a b : Fin n, a * b = 0 → a = 0 ∨ b = 0
theorem NC_UC (hf : Fld n) (iv : Fin n) (hiv : 2 * iv = 1) (X Y : H3 n) : NC g h k (UC g h k X Y) = NC g h k X * NC g h k X * NC g h k Y := by
  have u := AC_AC g h k iv hiv (UC g h k X Y)
  have x := AC_AC g h k iv hiv X
  have y := AC_AC g h k iv hiv Y
  have b := UC_back g h k iv hiv X Y
  rw [AC_UC g h k iv hiv, AC_UC g h k iv hiv, x, y, UC_smul] at u
  have e : UC g h k (MC (NC g h k X) X) Y = MC (NC g h k X * NC g h k X) (UC g h k X Y) := by
    unfold UC
    rw [FC_smull, AC_mult, XC_smull]
    refine cH_ext fun j i => ?_
    simp only [cH_SC, cH_MC]; grind
  rw [e, MC_MC] at u
  by_cases hz : ∀ j i, cH j i (UC g h k X Y) = 0
  · have z : UC g h k X Y = MC 0 (UC g h k X Y) := cH_ext fun j i => by rw [cH_MC, hz]; grind
    have n0 : NC g h k (UC g h k X Y) = 0 := by rw [z, NC_MC]; grind
    rw [n0]
    by_cases hN : NC g h k X * NC g h k X = 0
    · rw [hN]; grind
    · have y0 : Y = MC 0 Y := cH_ext fun j i => by
        have bb := congrArg (cH j i) b
        rw [cH_MC] at bb
        have l0 : cH j i (UC g h k (AC g h k X) (UC g h k X Y)) = 0 := by
          rw [z, UC_smul, cH_MC]; grind
        rw [l0] at bb
        rcases hf _ _ bb.symm with q | q
        · exact absurd q hN
        · rw [cH_MC, q]; grind
      have ny : NC g h k Y = 0 := by rw [y0, NC_MC]; grind
      rw [ny]; grind
  · obtain ⟨j, hz⟩ := Classical.not_forall.1 hz
    obtain ⟨i, hz⟩ := Classical.not_forall.1 hz
    have uu := congrArg (cH j i) u
    rw [cH_MC, cH_MC] at uu
    have d : (NC g h k (UC g h k X Y) - NC g h k X * NC g h k X * NC g h k Y) * cH j i (UC g h k X Y) = 0 := by grind
    rcases hf _ _ d with q | q
    · grind
    · exact absurd q hz
theorem UC_one (iv : Fin n) (hiv : 2 * iv = 1) (X : H3 n) : UC g h k X one3 = JC g h k iv X X := by
  rw [sq_id g h k iv hiv]
  unfold UC
  rw [FC_one, XC_one]
  refine cH_ext fun j i => ?_
  simp only [cH_SC, cH_MC]; grind
/-- The quadratic map by products. -/
theorem UQ_a (iv : Fin n) (hiv : 2 * iv = 1) (X Y : H3 n) : (SC (MC 2 (JC g h k iv X (JC g h k iv X Y))) (-1) (JC g h k iv (JC g h k iv X X) Y)).a = (UC g h k X Y).a := by
  obtain ⟨a, b, c, u, v, t⟩ := X
  obtain ⟨a', b', c', u', v', t'⟩ := Y
  simp only [UC, SC, MC, JC, XC, AC, FC, onm_odt, ocj_oad, ocj_osc, ocj_mul, ocj_ocj, omul_addl, omul_addr, omul_oscl, omul_oscr, odt_addl, odt_addr, odt_oscl, odt_oscr]
  have k1 := cyc g h k t v' u
  have k2 := cyc g h k t v u'
  have k3 := cyc g h k v u' t
  have k4 := cyc g h k v u t'
  have k5 := cyc g h k t' v u
  have p1 := odt_comm g h k (omul g h k (ocj v) (ocj u)) t'
  have p2 := odt_comm g h k (omul g h k (ocj u) (ocj t)) v'
  have p3 := odt_comm g h k (omul g h k (ocj t) (ocj v)) u'
  grind
theorem UQ_u (iv : Fin n) (hiv : 2 * iv = 1) (X Y : H3 n) : (SC (MC 2 (JC g h k iv X (JC g h k iv X Y))) (-1) (JC g h k iv (JC g h k iv X X) Y)).u = (UC g h k X Y).u := by
  obtain ⟨a, b, c, u, v, t⟩ := X
  obtain ⟨a', b', c', u', v', t'⟩ := Y
  simp only [UC, SC, MC, JC, XC, AC, FC, onm_odt, ocj_oad, ocj_osc, ocj_mul, ocj_ocj, omul_addl, omul_addr, omul_oscl, omul_oscr, odt_addl, odt_addr, odt_oscl, odt_oscr]
  have m4 := alt_r g h k u v' v
  have m5 := alt_l g h k u t' t
  have m6 := alt_r1 g h k u' v
  have m7 := alt_l1 g h k u' t
  rw [← odt_comm g h k v v'] at m4
  rw [← odt_comm g h k t t'] at m5
  generalize omul g h k (omul g h k u v') (ocj v) = P2 at *
  generalize omul g h k (omul g h k u' v) (ocj v) = P4 at *
  generalize omul g h k (ocj t) (omul g h k t u') = P7 at *
  generalize omul g h k (ocj t) (omul g h k t' u) = P9 at *
  generalize omul g h k (ocj t') (omul g h k t u) = Q2 at *
  generalize omul g h k (omul g h k u v) (ocj v') = Q3 at *
  generalize omul g h k (ocj t) (ocj v) = C0 at *
  generalize omul g h k (ocj t) (ocj v') = C1 at *
  generalize omul g h k (ocj t') (ocj v) = C2 at *
  generalize odt g h k u u = s5 at *
  generalize odt g h k u u' = s6 at *
  generalize odt g h k v v = s7 at *
  generalize odt g h k v v' = s8 at *
  generalize odt g h k t t = s9 at *
  generalize odt g h k t t' = s10 at *
  subst m6 m7
  apply Oc.ext
  · have q4 := congrArg Oc.a0 m4; have q5 := congrArg Oc.a0 m5; clear m4 m5; dsimp only [oad, osc] at q4 q5 ⊢; grind
  · have q4 := congrArg Oc.a1 m4; have q5 := congrArg Oc.a1 m5; clear m4 m5; dsimp only [oad, osc] at q4 q5 ⊢; grind
  · have q4 := congrArg Oc.a2 m4; have q5 := congrArg Oc.a2 m5; clear m4 m5; dsimp only [oad, osc] at q4 q5 ⊢; grind
  · have q4 := congrArg Oc.a3 m4; have q5 := congrArg Oc.a3 m5; clear m4 m5; dsimp only [oad, osc] at q4 q5 ⊢; grind
  · have q4 := congrArg Oc.a4 m4; have q5 := congrArg Oc.a4 m5; clear m4 m5; dsimp only [oad, osc] at q4 q5 ⊢; grind
  · have q4 := congrArg Oc.a5 m4; have q5 := congrArg Oc.a5 m5; clear m4 m5; dsimp only [oad, osc] at q4 q5 ⊢; grind
  · have q4 := congrArg Oc.a6 m4; have q5 := congrArg Oc.a6 m5; clear m4 m5; dsimp only [oad, osc] at q4 q5 ⊢; grind
  · have q4 := congrArg Oc.a7 m4; have q5 := congrArg Oc.a7 m5; clear m4 m5; dsimp only [oad, osc] at q4 q5 ⊢; grind
theorem JC_rot (iv : Fin n) (X Y : H3 n) : JC g h k iv (rot X) (rot Y) = rot (JC g h k iv X Y) := by have _h : NeZero n := inferInstance; rfl
theorem SC_rot (m : Fin n) (X Y : H3 n) : SC (rot X) m (rot Y) = rot (SC X m Y) := by have _h : NeZero n := inferInstance; rfl
theorem MC_rot (m : Fin n) (X : H3 n) : MC m (rot X) = rot (MC m X) := by have _h : NeZero n := inferInstance; rfl
theorem UC_rot (X Y : H3 n) : UC g h k (rot X) (rot Y) = rot (UC g h k X Y) := by
  unfold UC
  rw [FC_rot, AC_rot, XC_rot, MC_rot, SC_rot]
theorem UQ (iv : Fin n) (hiv : 2 * iv = 1) (X Y : H3 n) : SC (MC 2 (JC g h k iv X (JC g h k iv X Y))) (-1) (JC g h k iv (JC g h k iv X X) Y) = UC g h k X Y := by
  have r1 := UQ_a g h k iv hiv (rot X) (rot Y)
  have r2 := UQ_a g h k iv hiv (rot (rot X)) (rot (rot Y))
  have r3 := UQ_u g h k iv hiv (rot X) (rot Y)
  have r4 := UQ_u g h k iv hiv (rot (rot X)) (rot (rot Y))
  simp only [JC_rot, MC_rot, SC_rot, UC_rot] at r1 r2 r3 r4
  exact H3.ext (UQ_a g h k iv hiv X Y) r1 r2 (UQ_u g h k iv hiv X Y) r3 r4
end
end Go.Proofs.YtacfanjejaellaaGreat
/-
  Determinants and units over octonions modulo n; fields.
-/
namespace Go.Proofs.YtacfanjejaellaaGreat

section
variable {n : Nat} [NeZero n]
theorem omul_re2 (g h k : Fin n) (x y : Oc n) : (omul g h k x y).a0 = odt g h k x (ocj y) := by
  have e := omul_re g h k x (ocj y)
  rw [ocj_ocj] at e; exact e
theorem toF_det {p : Int} {st : List Int} {X : Her} (hp : p = n) (hp1 : 2 ≤ p) (hst : st.length ≤ 3) (hX : isH p (sz st.length) X = true) :
    toF n (detH p st X) = NC (gam n st 0) (gam n st 1) (gam n st 2) (toH n X) := by
  obtain ⟨eu, ev, et⟩ := isH_rows hX
  have em := mulL_ev (p := p) (by omega) eu ev
  have md : ∀ z : Int, toF n (z % p) = toF n z := fun z => by rw [hp]; exact toF_mod n z
  unfold detH cycL NC
  rw [md, toF_sub, toF_sub, toF_sub, toF_add, md]
  simp only [toF_mul, toF_norm hp hp1 hst eu, toF_norm hp hp1 hst ev, toF_norm hp hp1 hst et, onm_odt, toF_two]
  rw [getD_toO, toO_mul hp hst em.1 et.1, toO_mul hp hst eu.1 ev.1, omul_re2, odt_movr]
  rfl
theorem toH_unit {m : Nat} : toH n (unitH m) = one3 := by
  have z : toO n (List.replicate m 0) = ore 0 := toO_zeros
  unfold toH unitH one3
  apply H3.ext
  · exact toF_one n
  · exact toF_one n
  · exact toF_one n
  · exact z
  · exact z
  · exact z
end
theorem fld3 : Fld 3 := by unfold Fld; decide
theorem fld5 : Fld 5 := by unfold Fld; decide
theorem fld7 : Fld 7 := by unfold Fld; decide
theorem fld11 : Fld 11 := by unfold Fld; decide
theorem fld13 : Fld 13 := by unfold Fld; decide
end Go.Proofs.YtacfanjejaellaaGreat
/-
  First places other than 0, rows and matrices of zeros, equality of rows.
-/
namespace Go.Proofs.YtacfanjejaellaaGreat
open Go.RowKit

end Go.Proofs.YtacfanjejaellaaGreat
/-
  Equality of matrices, idempotents and ranks.
-/
namespace Go.Proofs.YtacfanjejaellaaGreat
open Go.RowKit

end Go.Proofs.YtacfanjejaellaaGreat
/-
  The reference's zero, rank, equality and idempotents.
-/
namespace Go.Proofs.YtacfanjejaellaaGreat
open Go.RowKit

end Go.Proofs.YtacfanjejaellaaGreat
/-
  The reference's equality of matrices and idempotents; multiples.
-/
namespace Go.Proofs.YtacfanjejaellaaGreat
open Go.RowKit

end Go.Proofs.YtacfanjejaellaaGreat
