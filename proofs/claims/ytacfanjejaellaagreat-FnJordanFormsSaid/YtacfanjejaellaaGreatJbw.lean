/- Texts joined for a claim: HdA, HdD, Idem, JorC, HeB, HeH, MarkJ, LawT, LJordanCross, FlowP. -/
import Derived.Test.YtacfanjejaellaaGreatHcY
import Derived.Test.YtacfanjejaellaaGreatJbn
import Derived.Test.YtacfanjejaellaaGreatJbt
import Derived.Test.YtacfanjejaellaaGreatCJordanInverse
import Derived.Test.YtacfanjejaellaaGreatCJordanCross
import Derived.Test.YtacfanjejaellaaGreatJbd
import Derived.Test.YtacfanjejaellaaGreatJaq
import Derived.Test.YtacfanjejaellaaGreatJbf
import Derived.Test.YtacfanjejaellaaGreatJar
import Derived.Test.YtacfanjejaellaaGreatFlow
/-
  The checks of points; the numbers of a matrix in one row (reference); a fresh matrix by its parts; results in blocks apart.
-/
namespace Go.Proofs.YtacfanjejaellaaGreat
open Go.RowKit

theorem FrH.op3 {w : World} {B : Nat} {x : Value} {X : Her} {p : Int} {n : Nat} (h : FrH w B x X) (hX : isH p n X = true) :
    ∃ a b c u v t bd cd bu cu r s q, X = ⟨[a, b, c], [u, v, t]⟩ ∧ x = .agg #[.slice (some ⟨bd, 0, none⟩) 3 cd, .slice (some ⟨bu, 0, none⟩) 3 cu] ∧ (Ev p n u ∧ Ev p n v ∧ Ev p n t) ∧
      (w.cell? ⟨bu, 0, none⟩ = some r ∧ w.cell? ⟨bu, 1, none⟩ = some s ∧ w.cell? ⟨bu, 2, none⟩ = some q) ∧ FrI w B r u ∧ FrI w B s v ∧ FrI w B q t ∧ (∃ a' c', r = .slice a' u.length c') ∧ (∃ a' c', s = .slice a' v.length c') ∧ (∃ a' c', q = .slice a' t.length c') := by
  obtain ⟨a, b, c, u, v, t, rfl, _, _, _, _, _, _, eu, ev, et⟩ := isH_op hX
  obtain ⟨d, y, us, rfl, ⟨gd, cd, rfl, hd⟩, ⟨gu, cu, rfl, ho, hl, hr, _⟩, _⟩ := h
  have hl3 : us.length = 3 := hl
  match us, hl3 with
  | [r, s, q], _ =>
    have hc := fun j z hz => World.ownsRow.cells ho (g := gu) rfl j z hz
    have c0 := hc 0 r rfl; have c1 := hc 1 s rfl; have c2 := hc 2 q rfl
    rw [addz] at c0 c1 c2
    have f0 := hr 0 (by simp) (by simp); have f1 := hr 1 (by simp) (by simp); have f2 := hr 2 (by simp) (by simp)
    exact ⟨a, b, c, u, v, t, gd, cd, gu, cu, r, s, q, rfl, rfl, ⟨eu, ev, et⟩, ⟨c0, c1, c2⟩, f0, f1, f2, by obtain ⟨g, cap, e, _⟩ := f0; exact ⟨_, _, e⟩, by obtain ⟨g, cap, e, _⟩ := f1; exact ⟨_, _, e⟩, by obtain ⟨g, cap, e, _⟩ := f2; exact ⟨_, _, e⟩⟩
/-- Slices that do not share a block. -/
def Apt (u v : Value) : Prop := u.ownBlock = none ∨ v.ownBlock = none ∨ u.ownBlock ≠ v.ownBlock
theorem Apt.fr {w w' : World} {B B' : Nat} {u v : Value} {xs ys : List Int} (h : FrI w B u xs) (h' : FrI w' B' v ys) (hB : w.heap.size ≤ B') : Apt u v := by
  obtain ⟨g, e, _, hg⟩ := h.blk
  obtain ⟨g', e', hg', _⟩ := h'.blk
  refine .inr (.inr ?_)
  rw [e, e']
  intro e2
  have e3 := Option.some.inj e2
  omega
end Go.Proofs.YtacfanjejaellaaGreat
/-
  Peirce parts and primitive idempotents: plain functions; lists of three matrices.
-/
namespace Go.Proofs.YtacfanjejaellaaGreat
open Go.RowKit

section
variable {p : Int} {st : List Int} {E X Y Z : Her}
end
end Go.Proofs.YtacfanjejaellaaGreat
/-
  A matrix that is a point with a trace other than 0 is a multiple of a primitive idempotent, and of no other matrix is this so.
-/
namespace Go.Proofs.YtacfanjejaellaaGreat

end Go.Proofs.YtacfanjejaellaaGreat
/-
  Pairings, adjoints, crosses, determinants, inverses of matrices as rows of numbers. No program in sight.
-/
namespace Go.Proofs.YtacfanjejaellaaGreat

section
variable {n : Nat} [NeZero n] (g h k : Fin n)
theorem SC_self (m : Fin n) (Z : H3 n) : SC Z (m - 1) Z = MC m Z := by
  unfold SC MC
  apply H3.ext <;> first | (unfold oad osc; apply Oc.ext <;> grind) | grind
theorem JC_MC (iv : Fin n) (X Z : H3 n) (m : Fin n) : JC g h k iv X (MC m Z) = MC m (JC g h k iv X Z) := by
  rw [← SC_self, JC_lin, SC_self]
theorem MC_0 (Z : H3 n) : MC 0 Z = zero3 := by
  unfold MC zero3 ore
  apply H3.ext <;> first | (unfold osc; apply Oc.ext <;> grind) | grind
theorem JC_zero (iv : Fin n) (X : H3 n) : JC g h k iv X zero3 = zero3 := by
  have e := JC_MC g h k iv X (zero3 : H3 n) 0
  rw [MC_0, MC_0] at e
  exact e
end
section
variable {p : Int} {st : List Int} {X Y Z : Her}
theorem tr_fp (hp : 2 ≤ p) : 0 ≤ traceH p X ∧ traceH p X < p := by unfold traceH; exact mod_fp2 (by omega)
theorem det_fp2 (hp : 2 ≤ p) : 0 ≤ detH p st X ∧ detH p st X < p := by unfold detH; exact mod_fp2 (by omega)
theorem toF_pair {n : Nat} [NeZero n] (hd : Dok p st) (hn : p = (n : Int)) (hiv : 2 * toF n (invL p 2) = 1) (hX : isH p (sz st.length) X = true) (hY : isH p (sz st.length) Y = true) :
    toF n (pairH p st X Y) = FC (gam n st 0) (gam n st 1) (gam n st 2) (toH n X) (toH n Y) := by
  have h2 : 2 ≤ p := by have := hd.hp.lo; omega
  unfold pairH
  rw [toF_trace hn, toH_jordan hn h2 hd.hl hX hY hiv, TC_JC]
theorem toH_cross {n : Nat} [NeZero n] (hd : Dok p st) (hn : p = (n : Int)) (hX : isH p (sz st.length) X = true) (hY : isH p (sz st.length) Y = true) :
    toH n (crossH p st X Y) = XC (gam n st 0) (gam n st 1) (gam n st 2) (toH n X) (toH n Y) := by
  have h2 : 2 ≤ p := by have := hd.hp.lo; omega
  have i1 := sumH_is (p := p) (k := 1) (by omega) hX hY
  have i2 := adjH_is (p := p) (by omega) i1
  have i3 := adjH_is (p := p) (by omega) hX
  have i4 := sumH_is (p := p) (k := -1) (by omega) i2 i3
  have i5 := adjH_is (p := p) (by omega) hY
  unfold crossH
  rw [toH_sum hn i4 i5, toH_sum hn i2 i3, toH_adj hn h2 hd.hl i1, toH_adj hn h2 hd.hl hX, toH_adj hn h2 hd.hl hY, toH_sum hn hX hY, toF_neg, toF_one, AC_SC]
  unfold SC
  apply H3.ext <;> first | (unfold oad osc; apply Oc.ext <;> grind) | grind
theorem pair_assoc (hd : Dok p st) (hX : isH p (sz st.length) X = true) (hY : isH p (sz st.length) Y = true) (hZ : isH p (sz st.length) Z = true) :
    pairH p st (jordanH p st X Y) Z = pairH p st X (jordanH p st Y Z) := by
  have h2 : 2 ≤ p := by have := hd.hp.lo; omega
  have h1 := jordanH_is h2 hX hY
  have h3 := jordanH_is h2 hY hZ
  refine hd.hp.lift fun n _ hn hiv _ => toF_inj (n := n) hn (tr_fp h2) (tr_fp h2) ?_
  show toF n (pairH p st _ Z) = toF n (pairH p st X _)
  rw [toF_pair hd hn hiv h1 hZ, toF_pair hd hn hiv hX h3, toH_jordan hn h2 hd.hl hX hY hiv, toH_jordan hn h2 hd.hl hY hZ hiv, FC_JC _ _ _ _ hiv]
theorem pair_adj (hd : Dok p st) (hX : isH p (sz st.length) X = true) : pairH p st (adjH p st X) X = 3 * detH p st X % p := by
  have h2 : 2 ≤ p := by have := hd.hp.lo; omega
  have hA := adjH_is h2 hX
  refine hd.hp.lift fun n _ hn hiv _ => toF_inj (n := n) hn (tr_fp h2) (mod_fp2 (by omega)) ?_
  have md : ∀ z : Int, toF n (z % p) = toF n z := fun z => by rw [hn]; exact toF_mod n z
  have e3 : toF n 3 = 3 := by
    rw [show (3 : Int) = 2 + 1 from rfl, toF_add, toF_two, toF_one]; grind
  show toF n (pairH p st _ X) = _
  rw [toF_pair hd hn hiv hA hX, toH_adj hn h2 hd.hl hX, FC_adj, md, toF_mul, toF_det hn h2 hd.hl hX, e3]
theorem pair_cross (hd : Dok p st) (hX : isH p (sz st.length) X = true) (hY : isH p (sz st.length) Y = true) (hZ : isH p (sz st.length) Z = true) :
    pairH p st (crossH p st X Y) Z = pairH p st (crossH p st Y Z) X := by
  have h2 : 2 ≤ p := by have := hd.hp.lo; omega
  have h1 := crossH_is h2 hX hY
  have h3 := crossH_is h2 hY hZ
  refine hd.hp.lift fun n _ hn hiv _ => toF_inj (n := n) hn (tr_fp h2) (tr_fp h2) ?_
  show toF n (pairH p st _ Z) = toF n (pairH p st _ X)
  rw [toF_pair hd hn hiv h1 hZ, toF_pair hd hn hiv h3 hX, toH_cross hd hn hX hY, toH_cross hd hn hY hZ, FX_sym, FC_comm]
theorem adj_adj (hd : Dok p st) (hX : isH p (sz st.length) X = true) : adjH p st (adjH p st X) = multH p X (detH p st X) := by
  have h2 : 2 ≤ p := by have := hd.hp.lo; omega
  have hA := adjH_is h2 hX
  refine hd.hp.lift fun n _ hn hiv _ => toH_inj (n := n) hn (sz_le hd).2 (adjH_is h2 hA) (multH_is (by omega) hX) ?_
  rw [toH_adj hn h2 hd.hl hA, toH_adj hn h2 hd.hl hX, toH_mult hn hX, toF_det hn h2 hd.hl hX, AC_AC _ _ _ _ hiv]
theorem det_sq (hd : Dok p st) (hX : isH p (sz st.length) X = true) : detH p st (jordanH p st X X) = detH p st X * detH p st X % p := by
  have h2 : 2 ≤ p := by have := hd.hp.lo; omega
  have hS := jordanH_is h2 hX hX
  refine hd.hp.lift fun n _ hn hiv hf => toF_inj (n := n) hn (det_fp2 h2) (mod_fp2 (by omega)) ?_
  have md : ∀ z : Int, toF n (z % p) = toF n z := fun z => by rw [hn]; exact toF_mod n z
  rw [toF_det hn h2 hd.hl hS, toH_jordan hn h2 hd.hl hX hX hiv, NC_sq _ _ _ hf _ hiv, md, toF_mul, toF_det hn h2 hd.hl hX]
theorem jor_inv (hd : Dok p st) (hX : isH p (sz st.length) X = true) (h0 : detH p st X ≠ 0) : jordanH p st X (multH p (adjH p st X) (invL p (detH p st X))) = unitH (sz st.length) := by
  have h2 : 2 ≤ p := by have := hd.hp.lo; omega
  have hA := adjH_is h2 hX
  have hdt := det_fp2 (st := st) (X := X) h2
  have hM := multH_is (p := p) (k := invL p (detH p st X)) (by omega) hA
  obtain ⟨i1, i2, _⟩ := inv_tab hd.hp (a := detH p st X) (by omega) hdt.2
  refine hd.hp.lift fun n _ hn hiv hf => toH_inj (n := n) hn (sz_le hd).2 (jordanH_is h2 hX hM) (unitH_is h2) ?_
  have hmm : toF n (detH p st X) * toF n (invL p (detH p st X)) = 1 := by
    rw [← toF_mul, ← toF_mod, ← hn, i2, toF_one]
  rw [toH_jordan hn h2 hd.hl hX hM hiv, toH_mult hn hA, toH_adj hn h2 hd.hl hX, toH_unit]
  rw [toF_det hn h2 hd.hl hX] at hmm
  rw [JC_MC, JC_AC _ _ _ _ hiv, MC_MC, Fin.mul_comm, hmm]
  unfold MC one3 ore
  apply H3.ext <;> first | (unfold osc; apply Oc.ext <;> grind) | grind
theorem rank_det (h0 : detH p st X ≠ 0) (hd : Dok p st) (hX : isH p (sz st.length) X = true) : rankH p st X = 3 := by
  have h2 : 2 ≤ p := by have := hd.hp.lo; omega
  have hA := adjH_is h2 hX
  have key : isZ (numsH (adjH p st X)) = true → False := by
    refine hd.hp.lift fun n _ hn hiv hf hz => h0 (toF_inj (n := n) hn (det_fp2 h2) (by omega) ?_)
    rw [isZ_nums hn (sz_le hd).2 hA, toH_adj hn h2 hd.hl hX] at hz
    have e := JC_AC (gam n st 0) (gam n st 1) (gam n st 2) _ hiv (toH n X)
    rw [hz, JC_zero] at e
    have e2 := congrArg H3.a e
    rw [toF_det hn h2 hd.hl hX, toF_zero]
    unfold zero3 MC one3 at e2
    grind
  have key2 : isZ (numsH X) = true → False := by
    refine hd.hp.lift fun n _ hn hiv hf hz => h0 (toF_inj (n := n) hn (det_fp2 h2) (by omega) ?_)
    rw [isZ_nums hn (sz_le hd).2 hX] at hz
    have e := JC_AC (gam n st 0) (gam n st 1) (gam n st 2) _ hiv (toH n X)
    rw [toF_det hn h2 hd.hl hX, toF_zero]
    rw [JC_comm, hz, JC_zero] at e
    have e2 := congrArg H3.a e
    rw [hz]
    unfold zero3 MC one3 at e2
    unfold zero3 at *
    grind
  unfold rankH
  rw [if_neg (fun h => key2 h), if_neg (fun h => key h), if_neg h0]
end
end Go.Proofs.YtacfanjejaellaaGreat
/-
  The laws' dice: the same as the source of the draws, over another struct.
-/
namespace Go.Proofs.YtacfanjejaellaaGreat
open Go.RowKit

/-- The three cells of dice. -/
def Dx (w : World) (q : Nat) (cv : Value) (i h : Int) : Prop := w.heap[q]? = some (.cells #[cv, .int .i64 i, .int .u64 h] 80 (0, 0))
def Dce (w : World) (q : Nat) : Prop := ∃ (cv : Value) (n i : Nat) (h : Int), Dx w q cv i h ∧ Co w q cv n ∧ i ≤ n ∧ 0 ≤ h ∧ h < 18446744073709551616
section
variable {w w' w2 : World} {q n B : Nat} {cv : Value} {i h' : Int}
theorem Dx.c0 (h : Dx w q cv i h') : w.cell? ⟨q, 0, none⟩ = some cv := by unfold Dx at h; simp [World.cell?, h]
theorem Dx.c1 (h : Dx w q cv i h') : w.cell? ⟨q, 1, none⟩ = some (.int .i64 i) := by unfold Dx at h; simp [World.cell?, h]
theorem Dx.c2 (h : Dx w q cv i h') : w.cell? ⟨q, 2, none⟩ = some (.int .u64 h') := by unfold Dx at h; simp [World.cell?, h]
theorem Dx.f (h : Dx w q cv i h') (k : Nat) : w.frozen? ⟨q, k, none⟩ = false := frozen_of_row _ _ _ _ _ h
theorem Dx.set1 (h : Dx w q cv i h') (i' : Int) : Dx (w.setCell ⟨q, 1, none⟩ (.int .i64 i')) q cv i' h' := heap_setCell_same _ _ _ _ _ _ h
theorem Dx.set2 (h : Dx w q cv i h') (k' : Int) : Dx (w.setCell ⟨q, 2, none⟩ (.int .u64 k')) q cv i k' := heap_setCell_same _ _ _ _ _ _ h
theorem Dx.lt (h : Dx w q cv i h') : q < w.heap.size := (Array.getElem?_eq_some_iff.1 h).1
theorem Dx.below (h : Dx w q cv i h') (hb : Below w.heap.size w w') : Dx w' q cv i h' := by
  unfold Dx at h ⊢
  rw [hb.block q (Array.getElem?_eq_some_iff.1 h).1]; exact h
theorem Dx.drew (h : Dx w q cv i h') : Dx w.drew q cv i h' := h
theorem Dce.lt (h : Dce w q) : q < w.heap.size := by obtain ⟨_, _, _, _, h, _⟩ := h; exact h.lt
theorem Dce.bl (h : Dce w q) (hb : Below B w w') (hq : q < B) : Dce w' q := by
  obtain ⟨cv, n, i, h, hx, hc, h1⟩ := h
  refine ⟨cv, n, i, h, ?_, hc.bl hb (by omega), h1⟩
  unfold Dx at hx ⊢
  rw [hb.block q hq]; exact hx
end
end Go.Proofs.YtacfanjejaellaaGreat
/-
  The laws' bound on codes.
-/
namespace Go.Proofs.YtacfanjejaellaaGreat
open Go.RowKit

theorem big_c {a : Option Addr} {n c : Nat} {w : World} (hn : n ≤ 9223372036854775807) :
    Calls Tryz.prog 7 #[.slice a n c] w fun e w' => e = .returned (.bool (decide (4096 < n))) ∧ w = w' := by
  by_cases h : 4096 < n
  · have h2 : (4096 : Int) < (n : Int) := by omega
    rw [decide_eq_true h]
    go_enter Tryz.func7, Tryz.ntmps7
    go_wp2
    go_ret
    exact ⟨rfl, rfl⟩
  · have h2 : ¬ (4096 : Int) < (n : Int) := by omega
    rw [decide_eq_false h]
    go_enter Tryz.func7, Tryz.ntmps7
    go_wp2
    go_ret
    exact ⟨rfl, rfl⟩
end Go.Proofs.YtacfanjejaellaaGreat
/-
  Sizes of matrices that passed the laws' size check.
-/
namespace Go.Proofs.YtacfanjejaellaaGreat
open Go.RowKit

end Go.Proofs.YtacfanjejaellaaGreat
/-
  What the laws with a matrix as result need beside: results kept over a store into an older block.
-/
namespace Go.Proofs.YtacfanjejaellaaGreat
open Go.RowKit

theorem OwH.set_ {w : World} {B : Nat} {v : Value} {X : Her} (h : OwH w B v X) {p : Addr} (hp : p.block < B) (u : Value) : OwH (w.setCell p u) B v X := by
  rcases h with h | h
  · exact .inl h
  · exact .inr (h.set_ hp u)
theorem OwH.hr {w : World} {B : Nat} {v : Value} {X : Her} (h : OwH w B v X) : Hr w v X := h.hv.hr
theorem Hs.none : Hs ⟨[], []⟩ := ⟨⟨by simp, by simp, fun xs hx => by simp at hx⟩, by simp [sumL]⟩
theorem isH_hs {p : Int} {st : List Int} {X : Her} (hd : Dok p st) (h : isH p (sz st.length) X = true) : Hs X := by
  have hs := sz_le hd
  obtain ⟨a, b, c, u, v, t, rfl, _, _, _, _, _, _, h1, h2, h3⟩ := isH_op h
  have e1 := h1.1; have e2 := h2.1; have e3 := h3.1
  refine ⟨⟨by simp, by simp, fun xs hx => ?_⟩, ?_⟩
  · simp only [List.mem_cons, List.not_mem_nil, or_false] at hx
    rcases hx with rfl | rfl | rfl <;> omega
  · simp only [sumL]; omega
end Go.Proofs.YtacfanjejaellaaGreat
/-
  JordanCross: the law.
-/
namespace Go.Proofs.YtacfanjejaellaaGreat
open Go.RowKit

theorem RJordanCross0_len (p0 : Int) (st0 : List Int) (X1 : Her) (X2 : Her) (_ : st0.length ≤ 1048576) (_ : Hsz X1) (_ : Hsz X2) : Hs (RJordanCross0 p0 st0 X1 X2) := by
  unfold RJordanCross0
  split
  · rename_i h
    obtain ⟨hd, hall⟩ := chkH_pos h
    simp at hall
    exact isH_hs hd (crossH_is (by have := hd.hp.lo; omega) (hall.1) (hall.2))
  · exact Hs.none

end Go.Proofs.YtacfanjejaellaaGreat
/-
  Regions that draw their order, with many operations: that an operation waits for a load is shown by a path, not by a search. Plain lemmas over any program.
-/
namespace Go.Proofs.YtacfanjejaellaaGreat
open Go.RowKit

section
variable {P : Program} {ops : Array Oper}
def edgeB (ops : Array Oper) (j k : Nat) : Bool := match ops[j]? with
  | none => false
  | some o => o.after.any fun e => Region.binds .any e && e.on == k
def pathB (ops : Array Oper) : Nat → List Nat → Nat → Bool
  | j, [], i => edgeB ops j i
  | j, k :: r, i => edgeB ops j k && pathB ops k r i
theorem pathB_ok {i : Nat} : ∀ {r : List Nat} {F j : Nat}, pathB ops j r i = true → r.length < F → waitsIn .any ops F j i = true
  | [], 0, j, h, hF => by simp at hF
  | [], F + 1, j, h, hF => by
    unfold pathB edgeB at h
    unfold waitsIn
    split at h
    · cases h
    · rename_i o ho
      rw [ho]
      simp only [Array.any_eq_true] at h ⊢
      obtain ⟨m, hm, h2⟩ := h
      refine ⟨m, hm, ?_⟩
      simp only [Bool.and_eq_true] at h2 ⊢
      exact ⟨h2.1, by rw [h2.2]; rfl⟩
  | k :: r, 0, j, h, hF => by simp at hF
  | k :: r, F + 1, j, h, hF => by
    unfold pathB at h
    simp only [Bool.and_eq_true] at h
    obtain ⟨h1, h2⟩ := h
    have ih := pathB_ok (F := F) h2 (by simp at hF; omega)
    unfold edgeB at h1
    unfold waitsIn
    split at h1
    · cases h1
    · rename_i o ho
      rw [ho]
      simp only [Array.any_eq_true] at h1 ⊢
      obtain ⟨m, hm, h3⟩ := h1
      refine ⟨m, hm, ?_⟩
      simp only [Bool.and_eq_true, beq_iff_eq] at h3 ⊢
      refine ⟨h3.1, ?_⟩
      rw [h3.2, ih]; simp
def waitsP (ops : Array Oper) (F : Nat) (PA : List (Nat × Nat × List Nat)) (i : Nat) (L : List (Nat × Nat)) (ok : Nat → Bool) : Bool :=
  L.all fun l => ok l.2 || PA.any fun q => q.1 == i && q.2.1 == l.1 && decide (q.2.2.length < F) && pathB ops i q.2.2 l.1
theorem waitsP_ok {F : Nat} {PA : List (Nat × Nat × List Nat)} {i : Nat} {L : List (Nat × Nat)} {ok : Nat → Bool} (h : waitsP ops F PA i L ok = true) : waitsB ops F i L ok = true := by
  unfold waitsP at h
  unfold waitsB
  rw [List.all_eq_true] at h ⊢
  intro l hl
  have h1 := h l hl
  simp only [Bool.or_eq_true] at h1 ⊢
  rcases h1 with h1 | h1
  · exact .inl h1
  · right
    rw [List.any_eq_true] at h1
    obtain ⟨q, _, h2⟩ := h1
    simp only [Bool.and_eq_true, decide_eq_true_eq] at h2
    exact pathB_ok h2.2 h2.1.2
def actOkP (ops : Array Oper) (F : Nat) (PA : List (Nat × Nat × List Nat)) (i m : Nat) (L : List (Nat × Nat)) : Bool := match m with
  | 3 => waitsP ops F PA i L (fun s => s != 0)
  | 5 => waitsP ops F PA i L (fun s => s == 2)
  | _ => waitsP ops F PA i L (fun _ => false)
theorem actOkP_ok {F : Nat} {PA : List (Nat × Nat × List Nat)} {i m : Nat} {L : List (Nat × Nat)} (h : actOkP ops F PA i m L = true) : actOk ops F i m L = true := by
  unfold actOkP at h
  unfold actOk
  split at h
  · exact waitsP_ok h
  · exact waitsP_ok h
  · rename_i h3 h5
    split
    · exact absurd rfl (h3 ·)
    · exact absurd rfl (h5 ·)
    · exact waitsP_ok h
def flowOkP (P : Program) (ops : Array Oper) (F : Nat) (PA : List (Nat × Nat × List Nat)) (act : Nat → Bool) : List (Nat × Nat) → Array Bool → List (Nat × Nat) → Bool → Bool
  | [], listed, _, _ => (Region.ready .any ops listed).isEmpty
  | (i, m) :: rest, listed, L, st => match ops[i]? with
    | none => false
    | some o => (Region.ready .any ops listed).contains i && (match m with
      | 0 => opKind P o == 0 && Region.free .any ops listed i && !act i && flowOkP P ops F PA act rest (listed.setIfInBounds i true) L st
      | 1 => opKind P o == 1 && Region.free .any ops listed i && !act i && flowOkP P ops F PA act rest (listed.setIfInBounds i true) ((i, if st then 1 else 2) :: L) st
      | _ => act i && Region.ready .any ops listed == [i] && actOkP ops F PA i m L && flowOkP P ops F PA act rest (listed.setIfInBounds i true) (L.map fun l => (l.1, actNext m l.2)) true)
theorem flowOkP_ok {F : Nat} {PA : List (Nat × Nat × List Nat)} {act : Nat → Bool} : ∀ {c : List (Nat × Nat)} {listed : Array Bool} {L : List (Nat × Nat)} {st : Bool}, flowOkP P ops F PA act c listed L st = true → flowOk P ops F act c listed L st = true
  | [], listed, L, st, h => h
  | (i, m) :: rest, listed, L, st, h => by
    unfold flowOkP at h
    unfold flowOk
    split at h
    · cases h
    · rename_i o ho
      rw [ho]
      simp only [Bool.and_eq_true] at h ⊢
      refine ⟨h.1, ?_⟩
      have h2 := h.2
      split at h2
      · simp only [Bool.and_eq_true] at h2 ⊢
        exact ⟨h2.1, flowOkP_ok h2.2⟩
      · simp only [Bool.and_eq_true] at h2 ⊢
        exact ⟨h2.1, flowOkP_ok h2.2⟩
      · rename_i h3 h5
        split
        · exact absurd rfl (h3 ·)
        · exact absurd rfl (h5 ·)
        · simp only [Bool.and_eq_true] at h2 ⊢
          exact ⟨⟨h2.1.1, actOkP_ok h2.1.2⟩, flowOkP_ok h2.2⟩
def regionOkP (P : Program) (ops : Array Oper) (PA : List (Nat × Nat × List Nat)) (segs : List (Bool × List (Nat × Nat))) : Bool :=
  P.follows .mixedOrders && Region.noSelect ops && (flat segs).length == ops.size && kindsOk P ops (flat segs) && stableB ops (segL ops (flat segs)) && segsOk segs &&
    flowOkP P ops ops.size PA (fun j => (flat segs).any fun p => p.1 == j && decide (2 ≤ p.2)) (flat segs) (Array.replicate ops.size false) [] false
/-- As region_flow, with paths. -/
theorem region_flowP (PA : List (Nat × Nat × List Nat)) (segs : List (Bool × List (Nat × Nat))) {id : Nat} {l : List Oper} {Q : Exit → Act → World → Prop} {a : Act} {w : World} (hok : regionOkP P l.toArray PA segs = true)
    (h : wpSegs P l.toArray (fun a' w' => shapesB l.toArray (flat segs) a' = true ∧ Q .normal a' w') w.drew segs a w.drew) : (Code.region id l.toArray true).wp P Q a w := by
  refine region_flow segs ?_ h
  unfold regionOkP at hok
  unfold regionOk
  simp only [Bool.and_eq_true] at hok ⊢
  exact ⟨hok.1, flowOkP_ok hok.2⟩
end
end Go.Proofs.YtacfanjejaellaaGreat
