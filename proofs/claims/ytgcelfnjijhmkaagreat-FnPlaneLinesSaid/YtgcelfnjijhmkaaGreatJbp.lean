/- Texts joined for a claim: HdD, Idem, JorC, PnA, HeB, HeH. -/
import Derived.Test.YtgcelfnjijhmkaaGreatHdA
import Derived.Test.YtgcelfnjijhmkaaGreatJbh
import Derived.Test.YtgcelfnjijhmkaaGreatJbn
import Derived.Test.YtgcelfnjijhmkaaGreatJbj
import Derived.Test.YtgcelfnjijhmkaaGreatJbc
/-
  Peirce parts and primitive idempotents: plain functions; lists of three matrices.
-/
namespace Go.Proofs.YtgcelfnjijhmkaaGreat
open Go.RowKit

section
variable {p : Int} {st : List Int} {E X Y Z : Her}
end
theorem Lh.three {w : World} {d u d' u' d2 u2 : Value} {X Y Z : Her} {b c : Nat} (h : Hv w (.agg #[d, u]) X) (h0 : w.cell? ⟨b, 0, none⟩ = some d) (h1 : w.cell? ⟨b, 1, none⟩ = some u)
    (k : Hv w (.agg #[d', u']) Y) (h2 : w.cell? ⟨b, 2, none⟩ = some d') (h3 : w.cell? ⟨b, 3, none⟩ = some u') (l : Hv w (.agg #[d2, u2]) Z) (h4 : w.cell? ⟨b, 4, none⟩ = some d2) (h5 : w.cell? ⟨b, 5, none⟩ = some u2) : Lh w (.slice (some ⟨b, 0, none⟩) 3 c) [X, Y, Z] := by
  refine ⟨_, c, rfl, .inr ⟨b, 0, rfl, fun j hj => ?_⟩⟩
  simp at hj
  rcases (show j = 0 ∨ j = 1 ∨ j = 2 by omega) with rfl | rfl | rfl
  · exact ⟨d, u, h0, h1, h⟩
  · exact ⟨d', u', h2, h3, k⟩
  · exact ⟨d2, u2, h4, h5, l⟩
end Go.Proofs.YtgcelfnjijhmkaaGreat
/-
  A matrix that is a point with a trace other than 0 is a multiple of a primitive idempotent, and of no other matrix is this so.
-/
namespace Go.Proofs.YtgcelfnjijhmkaaGreat

end Go.Proofs.YtgcelfnjijhmkaaGreat
/-
  Pairings, adjoints, crosses, determinants, inverses of matrices as rows of numbers. No program in sight.
-/
namespace Go.Proofs.YtgcelfnjijhmkaaGreat

section
variable {n : Nat} [NeZero n] (g h k : Fin n)
theorem SC_self (m : Fin n) (Z : H3 n) : SC Z (m - 1) Z = MC m Z := by
  unfold SC MC
  apply H3.ext <;> first | (unfold oad osc; apply Oc.ext <;> grind) | grind
theorem MC_0 (Z : H3 n) : MC 0 Z = zero3 := by
  unfold MC zero3 ore
  apply H3.ext <;> first | (unfold osc; apply Oc.ext <;> grind) | grind
end
section
variable {p : Int} {st : List Int} {X Y Z : Her}
theorem tr_fp (hp : 2 ≤ p) : 0 ≤ traceH p X ∧ traceH p X < p := by unfold traceH; exact mod_fp2 (by omega)
theorem toF_pair {n : Nat} [NeZero n] (hd : Dok p st) (hn : p = (n : Int)) (hiv : 2 * toF n (invL p 2) = 1) (hX : isH p (sz st.length) X = true) (hY : isH p (sz st.length) Y = true) :
    toF n (pairH p st X Y) = FC (gam n st 0) (gam n st 1) (gam n st 2) (toH n X) (toH n Y) := by
  have h2 : 2 ≤ p := by have := hd.hp.lo; omega
  unfold pairH
  rw [toF_trace hn, toH_jordan hn h2 hd.hl hX hY hiv, TC_JC]
theorem toH_cross {n : Nat} [NeZero n] (hd : Dok p st) (hn : p = (n : Int)) (hX : isH p (sz st.length) X = true) (hY : isH p (sz st.length) Y = true) :
    toH n (crossH p st X Y) = XC (gam n st 0) (gam n st 1) (gam n st 2) (toH n X) (toH n Y) := by
  have h2 : 2 ≤ p := by have := hd.hp.lo; omega
  have i1 := sumH_is (p := p) (k := 1) (by omega) hX hY
  have i2 := adjH_is (p := p) (by omega) i1
  have i3 := adjH_is (p := p) (by omega) hX
  have i4 := sumH_is (p := p) (k := -1) (by omega) i2 i3
  have i5 := adjH_is (p := p) (by omega) hY
  unfold crossH
  rw [toH_sum hn i4 i5, toH_sum hn i2 i3, toH_adj hn h2 hd.hl i1, toH_adj hn h2 hd.hl hX, toH_adj hn h2 hd.hl hY, toH_sum hn hX hY, toF_neg, toF_one, AC_SC]
  unfold SC
  apply H3.ext <;> first | (unfold oad osc; apply Oc.ext <;> grind) | grind
theorem pair_cross (hd : Dok p st) (hX : isH p (sz st.length) X = true) (hY : isH p (sz st.length) Y = true) (hZ : isH p (sz st.length) Z = true) :
    pairH p st (crossH p st X Y) Z = pairH p st (crossH p st Y Z) X := by
  have h2 : 2 ≤ p := by have := hd.hp.lo; omega
  have h1 := crossH_is h2 hX hY
  have h3 := crossH_is h2 hY hZ
  refine hd.hp.lift fun n _ hn hiv _ => toF_inj (n := n) hn (tr_fp h2) (tr_fp h2) ?_
  show toF n (pairH p st _ Z) = toF n (pairH p st _ X)
  rw [toF_pair hd hn hiv h1 hZ, toF_pair hd hn hiv h3 hX, toH_cross hd hn hX hY, toH_cross hd hn hY hZ, FX_sym, FC_comm]
end
end Go.Proofs.YtgcelfnjijhmkaaGreat
/-
  Points and lines of the planes, as rows of numbers. No program in sight.
-/
namespace Go.Proofs.YtgcelfnjijhmkaaGreat

section
variable {n : Nat} [NeZero n] (g h k : Fin n)
theorem SC_00 (Z X : H3 n) : SC Z 0 X = Z := by
  unfold SC
  apply H3.ext <;> first | (unfold oad osc; apply Oc.ext <;> grind) | grind
theorem SC_zz (m : Fin n) : SC zero3 m zero3 = (zero3 : H3 n) := by
  have e := SC_self (m + 1) (zero3 : H3 n)
  rw [show m + 1 - 1 = m by grind, MC_zero] at e
  exact e
theorem FC_zl (Y : H3 n) : FC g h k zero3 Y = 0 := by
  have e := FC_smull g h k Y (zero3 : H3 n) 0
  rw [MC_0] at e
  rw [e]; grind
theorem FC_zr (Y : H3 n) : FC g h k Y zero3 = 0 := by rw [FC_comm, FC_zl]
theorem XC_zl (Y : H3 n) : XC g h k zero3 Y = zero3 := by
  have e := XC_smull g h k Y (zero3 : H3 n) 0
  rw [MC_0, MC_0] at e
  exact e
end
section
variable {p : Int} {st : List Int} {X Y Z : Her}
theorem isPt_iff : isPt p st X = true ↔ isZ (numsH X) = false ∧ isZ (numsH (adjH p st X)) = true := by
  unfold isPt rankH
  rw [beq_iff_eq]
  cases h1 : isZ (numsH X)
  · cases h2 : isZ (numsH (adjH p st X))
    · simp only [Bool.false_eq_true, if_false, and_false, iff_false]
      split <;> decide
    · simp
  · simp
theorem cross_is (hd : Dok p st) (hX : isH p (sz st.length) X = true) (hY : isH p (sz st.length) Y = true) : isH p (sz st.length) (crossH p st X Y) = true :=
  crossH_is (by have := hd.hp.lo; omega) hX hY
theorem line_pt (hd : Dok p st) (hX : isH p (sz st.length) X = true) (hY : isH p (sz st.length) Y = true) (pX : isPt p st X = true) (pY : isPt p st Y = true) (hz : isZ (numsH (crossH p st X Y)) = false) : isPt p st (crossH p st X Y) = true := by
  have h2 : 2 ≤ p := by have := hd.hp.lo; omega
  have hC := cross_is hd hX hY
  refine isPt_iff.2 ⟨hz, ?_⟩
  have aX := (isPt_iff.1 pX).2
  have aY := (isPt_iff.1 pY).2
  have sz8 := (sz_le hd).2
  refine hd.hp.lift fun n _ hn hiv _ => ?_
  have iX := adjH_is h2 hX
  have iY := adjH_is h2 hY
  have iC := adjH_is h2 hC
  rw [isZ_nums (n := n) hn sz8 iX, toH_adj hn h2 hd.hl hX] at aX
  rw [isZ_nums (n := n) hn sz8 iY, toH_adj hn h2 hd.hl hY] at aY
  rw [isZ_nums (n := n) hn sz8 iC, toH_adj hn h2 hd.hl hC, toH_cross hd hn hX hY, AC_XC _ _ _ (toF n (invL p 2)) hiv, aX, aY, FC_zl, FC_zr, MC_0, SC_00, XC_zl, SC_zz]
theorem cross_comm (hd : Dok p st) (hX : isH p (sz st.length) X = true) (hY : isH p (sz st.length) Y = true) : crossH p st Y X = crossH p st X Y := by
  refine hd.hp.lift fun n _ hn hiv _ => toH_inj (n := n) hn (sz_le hd).2 (cross_is hd hY hX) (cross_is hd hX hY) ?_
  rw [toH_cross hd hn hY hX, toH_cross hd hn hX hY, XC_comm]
theorem pair_comm (hd : Dok p st) (hX : isH p (sz st.length) X = true) (hY : isH p (sz st.length) Y = true) : pairH p st Y X = pairH p st X Y := by
  unfold pairH
  rw [jor_comm hd hX hY]
theorem on_line (hd : Dok p st) (hX : isH p (sz st.length) X = true) (hY : isH p (sz st.length) Y = true) (pX : isPt p st X = true) : pairH p st X (crossH p st X Y) = 0 := by
  have h2 : 2 ≤ p := by have := hd.hp.lo; omega
  have hC := cross_is hd hX hY
  have aX := (isPt_iff.1 pX).2
  have sz8 := (sz_le hd).2
  refine hd.hp.lift fun n _ hn hiv _ => ?_
  have iX := adjH_is h2 hX
  rw [isZ_nums (n := n) hn sz8 iX, toH_adj hn h2 hd.hl hX] at aX
  refine toF_inj (n := n) hn (tr_fp h2) (by omega) ?_
  show toF n (pairH p st X _) = _
  rw [toF_pair hd hn hiv hX hC, toH_cross hd hn hX hY, ← FX_sym, XC_self, aX, MC_zero, FC_zl, toF_zero]
theorem on_line2 (hd : Dok p st) (hX : isH p (sz st.length) X = true) (hY : isH p (sz st.length) Y = true) (pY : isPt p st Y = true) : pairH p st Y (crossH p st X Y) = 0 := by
  rw [← cross_comm hd hX hY]
  exact on_line hd hY hX pY
end
end Go.Proofs.YtgcelfnjijhmkaaGreat
/-
  The laws' dice: the same as the source of the draws, over another struct.
-/
namespace Go.Proofs.YtgcelfnjijhmkaaGreat
open Go.RowKit

def Dx (w : World) (q : Nat) (cv : Value) (i h : Int) : Prop := w.heap[q]? = some (.cells #[cv, .int .i64 i, .int .u64 h] 74 (0, 0))
def Dce (w : World) (q : Nat) : Prop := ∃ (cv : Value) (n i : Nat) (h : Int), Dx w q cv i h ∧ Co w q cv n ∧ i ≤ n ∧ 0 ≤ h ∧ h < 18446744073709551616
section
variable {w w' w2 : World} {q n B : Nat} {cv : Value} {i h' : Int}
theorem Dx.c0 (h : Dx w q cv i h') : w.cell? ⟨q, 0, none⟩ = some cv := by unfold Dx at h; simp [World.cell?, h]
theorem Dx.c1 (h : Dx w q cv i h') : w.cell? ⟨q, 1, none⟩ = some (.int .i64 i) := by unfold Dx at h; simp [World.cell?, h]
theorem Dx.c2 (h : Dx w q cv i h') : w.cell? ⟨q, 2, none⟩ = some (.int .u64 h') := by unfold Dx at h; simp [World.cell?, h]
theorem Dx.f (h : Dx w q cv i h') (k : Nat) : w.frozen? ⟨q, k, none⟩ = false := frozen_of_row _ _ _ _ _ h
theorem Dx.set1 (h : Dx w q cv i h') (i' : Int) : Dx (w.setCell ⟨q, 1, none⟩ (.int .i64 i')) q cv i' h' := heap_setCell_same _ _ _ _ _ _ h
theorem Dx.set2 (h : Dx w q cv i h') (k' : Int) : Dx (w.setCell ⟨q, 2, none⟩ (.int .u64 k')) q cv i k' := heap_setCell_same _ _ _ _ _ _ h
theorem Dx.lt (h : Dx w q cv i h') : q < w.heap.size := (Array.getElem?_eq_some_iff.1 h).1
theorem Dx.below (h : Dx w q cv i h') (hb : Below w.heap.size w w') : Dx w' q cv i h' := by
  unfold Dx at h ⊢
  rw [hb.block q (Array.getElem?_eq_some_iff.1 h).1]; exact h
theorem Dx.drew (h : Dx w q cv i h') : Dx w.drew q cv i h' := h
theorem Dce.lt (h : Dce w q) : q < w.heap.size := by obtain ⟨_, _, _, _, h, _⟩ := h; exact h.lt
theorem Dce.bl (h : Dce w q) (hb : Below B w w') (hq : q < B) : Dce w' q := by
  obtain ⟨cv, n, i, h, hx, hc, h1⟩ := h
  refine ⟨cv, n, i, h, ?_, hc.bl hb (by omega), h1⟩
  unfold Dx at hx ⊢
  rw [hb.block q hq]; exact hx
end
end Go.Proofs.YtgcelfnjijhmkaaGreat
/-
  The laws' bound on codes.
-/
namespace Go.Proofs.YtgcelfnjijhmkaaGreat
open Go.RowKit

theorem big_c {a : Option Addr} {n c : Nat} {w : World} (hn : n ≤ 9223372036854775807) :
    Calls Tryz.prog 5 #[.slice a n c] w fun e w' => e = .returned (.bool (decide (4096 < n))) ∧ w = w' := by
  by_cases h : 4096 < n
  · have h2 : (4096 : Int) < (n : Int) := by omega
    rw [decide_eq_true h]
    go_enter Tryz.func5, Tryz.ntmps5
    go_wp2
    go_ret
    exact ⟨rfl, rfl⟩
  · have h2 : ¬ (4096 : Int) < (n : Int) := by omega
    rw [decide_eq_false h]
    go_enter Tryz.func5, Tryz.ntmps5
    go_wp2
    go_ret
    exact ⟨rfl, rfl⟩
end Go.Proofs.YtgcelfnjijhmkaaGreat
