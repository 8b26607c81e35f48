/- Texts joined for a claim: JorB, HeB, HeH, MarkJ, LawT, LQuadraticMap, FlowP. -/
import Derived.Test.YtacfanjejaellaaGreatJbv
import Derived.Test.YtacfanjejaellaaGreatCQuadraticMap
import Derived.Test.YtacfanjejaellaaGreatJbf
import Derived.Test.YtacfanjejaellaaGreatJar
import Derived.Test.YtacfanjejaellaaGreatJbh
import Derived.Test.YtacfanjejaellaaGreatJas
import Derived.Test.YtacfanjejaellaaGreatFlow
/-
  The quadratic maps of matrices as rows of numbers: determinants, the fundamental identity. No program in sight.
-/
namespace Go.Proofs.YtacfanjejaellaaGreat

section
variable {p : Int} {st : List Int} {X Y Z : Her}
theorem toH_quad {n : Nat} [NeZero n] (hd : Dok p st) (hn : p = (n : Int)) (hiv : 2 * toF n (invL p 2) = 1) (hX : isH p (sz st.length) X = true) (hY : isH p (sz st.length) Y = true) :
    toH n (quadH p st X Y) = UC (gam n st 0) (gam n st 1) (gam n st 2) (toH n X) (toH n Y) := by
  have h2 : 2 ≤ p := by have := hd.hp.lo; omega
  have h1 := jordanH_is h2 hX hY
  have h3 := jordanH_is h2 hX h1
  have h4 := multH_is (p := p) (k := 2) (by omega) h3
  have h5 := jordanH_is h2 hX hX
  have h6 := jordanH_is h2 h5 hY
  unfold quadH
  rw [toH_sum hn h4 h6, toH_mult hn h3, toH_jordan hn h2 hd.hl hX h1 hiv, toH_jordan hn h2 hd.hl hX hY hiv, toH_jordan hn h2 hd.hl h5 hY hiv, toH_jordan hn h2 hd.hl hX hX hiv, toF_neg, toF_one, toF_two, UQ _ _ _ _ hiv]
theorem det_fp (hd : Dok p st) : 0 ≤ detH p st X ∧ detH p st X < p := by
  unfold detH; exact mod_fp2 (by have := hd.hp.lo; omega)
theorem quad_det (hd : Dok p st) (hX : isH p (sz st.length) X = true) (hY : isH p (sz st.length) Y = true) :
    detH p st (quadH p st X Y) = detH p st X * detH p st X % p * detH p st Y % p := by
  have h2 : 2 ≤ p := by have := hd.hp.lo; omega
  have hQ := quadH_is h2 hX hY
  refine hd.hp.lift fun n _ hn hiv hf => toF_inj (n := n) hn (det_fp hd) (mod_fp2 (by omega)) ?_
  have md : ∀ z : Int, toF n (z % p) = toF n z := fun z => by rw [hn]; exact toF_mod n z
  rw [toF_det hn h2 hd.hl hQ, toH_quad hd hn hiv hX hY, NC_UC _ _ _ hf _ hiv, md, toF_mul, md, toF_mul, toF_det hn h2 hd.hl hX, toF_det hn h2 hd.hl hY]
theorem quad_fund (hd : Dok p st) (hX : isH p (sz st.length) X = true) (hY : isH p (sz st.length) Y = true) (hZ : isH p (sz st.length) Z = true) :
    quadH p st (quadH p st X Y) Z = quadH p st X (quadH p st Y (quadH p st X Z)) := by
  have h2 : 2 ≤ p := by have := hd.hp.lo; omega
  have hQ := quadH_is h2 hX hY
  have h1 := quadH_is h2 hX hZ
  have h3 := quadH_is h2 hY h1
  refine hd.hp.lift fun n _ hn hiv _ => toH_inj (n := n) hn (sz_le hd).2 (quadH_is h2 hQ hZ) (quadH_is h2 hX h3) ?_
  rw [toH_quad hd hn hiv hQ hZ, toH_quad hd hn hiv hX hY, toH_quad hd hn hiv hX h3, toH_quad hd hn hiv hY h1, toH_quad hd hn hiv hX hZ, UC3 _ _ _ _ hiv]
theorem quad_unit (hd : Dok p st) (hX : isH p (sz st.length) X = true) : quadH p st X (unitH (sz st.length)) = jordanH p st X X := by
  have h2 : 2 ≤ p := by have := hd.hp.lo; omega
  have hU : isH p (sz st.length) (unitH (sz st.length)) = true := unitH_is h2
  refine hd.hp.lift fun n _ hn hiv _ => toH_inj (n := n) hn (sz_le hd).2 (quadH_is h2 hX hU) (jordanH_is h2 hX hX) ?_
  rw [toH_quad hd hn hiv hX hU, toH_unit, UC_one _ _ _ _ hiv, toH_jordan hn h2 hd.hl hX hX hiv]
end
end Go.Proofs.YtacfanjejaellaaGreat
/-
  The laws' dice: the same as the source of the draws, over another struct.
-/
namespace Go.Proofs.YtacfanjejaellaaGreat
open Go.RowKit

/-- The three cells of dice. -/
def Dx (w : World) (q : Nat) (cv : Value) (i h : Int) : Prop := w.heap[q]? = some (.cells #[cv, .int .i64 i, .int .u64 h] 80 (0, 0))
def Dce (w : World) (q : Nat) : Prop := ∃ (cv : Value) (n i : Nat) (h : Int), Dx w q cv i h ∧ Co w q cv n ∧ i ≤ n ∧ 0 ≤ h ∧ h < 18446744073709551616
section
variable {w w' w2 : World} {q n B : Nat} {cv : Value} {i h' : Int}
theorem Dx.c0 (h : Dx w q cv i h') : w.cell? ⟨q, 0, none⟩ = some cv := by unfold Dx at h; simp [World.cell?, h]
theorem Dx.c1 (h : Dx w q cv i h') : w.cell? ⟨q, 1, none⟩ = some (.int .i64 i) := by unfold Dx at h; simp [World.cell?, h]
theorem Dx.c2 (h : Dx w q cv i h') : w.cell? ⟨q, 2, none⟩ = some (.int .u64 h') := by unfold Dx at h; simp [World.cell?, h]
theorem Dx.f (h : Dx w q cv i h') (k : Nat) : w.frozen? ⟨q, k, none⟩ = false := frozen_of_row _ _ _ _ _ h
theorem Dx.set1 (h : Dx w q cv i h') (i' : Int) : Dx (w.setCell ⟨q, 1, none⟩ (.int .i64 i')) q cv i' h' := heap_setCell_same _ _ _ _ _ _ h
theorem Dx.set2 (h : Dx w q cv i h') (k' : Int) : Dx (w.setCell ⟨q, 2, none⟩ (.int .u64 k')) q cv i k' := heap_setCell_same _ _ _ _ _ _ h
theorem Dx.lt (h : Dx w q cv i h') : q < w.heap.size := (Array.getElem?_eq_some_iff.1 h).1
theorem Dx.below (h : Dx w q cv i h') (hb : Below w.heap.size w w') : Dx w' q cv i h' := by
  unfold Dx at h ⊢
  rw [hb.block q (Array.getElem?_eq_some_iff.1 h).1]; exact h
theorem Dx.drew (h : Dx w q cv i h') : Dx w.drew q cv i h' := h
theorem Dce.lt (h : Dce w q) : q < w.heap.size := by obtain ⟨_, _, _, _, h, _⟩ := h; exact h.lt
theorem Dce.bl (h : Dce w q) (hb : Below B w w') (hq : q < B) : Dce w' q := by
  obtain ⟨cv, n, i, h, hx, hc, h1⟩ := h
  refine ⟨cv, n, i, h, ?_, hc.bl hb (by omega), h1⟩
  unfold Dx at hx ⊢
  rw [hb.block q hq]; exact hx
end
end Go.Proofs.YtacfanjejaellaaGreat
/-
  The laws' bound on codes.
-/
namespace Go.Proofs.YtacfanjejaellaaGreat
open Go.RowKit

theorem big_c {a : Option Addr} {n c : Nat} {w : World} (hn : n ≤ 9223372036854775807) :
    Calls Tryz.prog 7 #[.slice a n c] w fun e w' => e = .returned (.bool (decide (4096 < n))) ∧ w = w' := by
  by_cases h : 4096 < n
  · have h2 : (4096 : Int) < (n : Int) := by omega
    rw [decide_eq_true h]
    go_enter Tryz.func7, Tryz.ntmps7
    go_wp2
    go_ret
    exact ⟨rfl, rfl⟩
  · have h2 : ¬ (4096 : Int) < (n : Int) := by omega
    rw [decide_eq_false h]
    go_enter Tryz.func7, Tryz.ntmps7
    go_wp2
    go_ret
    exact ⟨rfl, rfl⟩
end Go.Proofs.YtacfanjejaellaaGreat
/-
  Sizes of matrices that passed the laws' size check.
-/
namespace Go.Proofs.YtacfanjejaellaaGreat
open Go.RowKit

end Go.Proofs.YtacfanjejaellaaGreat
/-
  What the laws with a matrix as result need beside: results kept over a store into an older block.
-/
namespace Go.Proofs.YtacfanjejaellaaGreat
open Go.RowKit

theorem OwH.set_ {w : World} {B : Nat} {v : Value} {X : Her} (h : OwH w B v X) {p : Addr} (hp : p.block < B) (u : Value) : OwH (w.setCell p u) B v X := by
  rcases h with h | h
  · exact .inl h
  · exact .inr (h.set_ hp u)
theorem OwH.hr {w : World} {B : Nat} {v : Value} {X : Her} (h : OwH w B v X) : Hr w v X := h.hv.hr
theorem Hs.none : Hs ⟨[], []⟩ := ⟨⟨by simp, by simp, fun xs hx => by simp at hx⟩, by simp [sumL]⟩
theorem isH_hs {p : Int} {st : List Int} {X : Her} (hd : Dok p st) (h : isH p (sz st.length) X = true) : Hs X := by
  have hs := sz_le hd
  obtain ⟨a, b, c, u, v, t, rfl, _, _, _, _, _, _, h1, h2, h3⟩ := isH_op h
  have e1 := h1.1; have e2 := h2.1; have e3 := h3.1
  refine ⟨⟨by simp, by simp, fun xs hx => ?_⟩, ?_⟩
  · simp only [List.mem_cons, List.not_mem_nil, or_false] at hx
    rcases hx with rfl | rfl | rfl <;> omega
  · simp only [sumL]; omega
end Go.Proofs.YtacfanjejaellaaGreat
/-
  QuadraticMap: the law.
-/
namespace Go.Proofs.YtacfanjejaellaaGreat
open Go.RowKit

theorem RQuadraticMap0_len (p0 : Int) (st0 : List Int) (X1 : Her) (X2 : Her) (_ : st0.length ≤ 1048576) (_ : Hsz X1) (_ : Hsz X2) : Hs (RQuadraticMap0 p0 st0 X1 X2) := by
  unfold RQuadraticMap0
  split
  · rename_i h
    have h0 := h
    obtain ⟨hd, hall⟩ := chkH_pos h0
    simp at hall
    exact isH_hs hd (quadH_is (by have := hd.hp.lo; omega) hall.1 hall.2)
  · exact Hs.none

end Go.Proofs.YtacfanjejaellaaGreat
/-
  Regions that draw their order, with many operations: that an operation waits for a load is shown by a path, not by a search. Plain lemmas over any program.
-/
namespace Go.Proofs.YtacfanjejaellaaGreat
open Go.RowKit

section
variable {P : Program} {ops : Array Oper}
def edgeB (ops : Array Oper) (j k : Nat) : Bool := match ops[j]? with
  | none => false
  | some o => o.after.any fun e => Region.binds .any e && e.on == k
def pathB (ops : Array Oper) : Nat → List Nat → Nat → Bool
  | j, [], i => edgeB ops j i
  | j, k :: r, i => edgeB ops j k && pathB ops k r i
theorem pathB_ok {i : Nat} : ∀ {r : List Nat} {F j : Nat}, pathB ops j r i = true → r.length < F → waitsIn .any ops F j i = true
  | [], 0, j, h, hF => by simp at hF
  | [], F + 1, j, h, hF => by
    unfold pathB edgeB at h
    unfold waitsIn
    split at h
    · cases h
    · rename_i o ho
      rw [ho]
      simp only [Array.any_eq_true] at h ⊢
      obtain ⟨m, hm, h2⟩ := h
      refine ⟨m, hm, ?_⟩
      simp only [Bool.and_eq_true] at h2 ⊢
      exact ⟨h2.1, by rw [h2.2]; rfl⟩
  | k :: r, 0, j, h, hF => by simp at hF
  | k :: r, F + 1, j, h, hF => by
    unfold pathB at h
    simp only [Bool.and_eq_true] at h
    obtain ⟨h1, h2⟩ := h
    have ih := pathB_ok (F := F) h2 (by simp at hF; omega)
    unfold edgeB at h1
    unfold waitsIn
    split at h1
    · cases h1
    · rename_i o ho
      rw [ho]
      simp only [Array.any_eq_true] at h1 ⊢
      obtain ⟨m, hm, h3⟩ := h1
      refine ⟨m, hm, ?_⟩
      simp only [Bool.and_eq_true, beq_iff_eq] at h3 ⊢
      refine ⟨h3.1, ?_⟩
      rw [h3.2, ih]; simp
def waitsP (ops : Array Oper) (F : Nat) (PA : List (Nat × Nat × List Nat)) (i : Nat) (L : List (Nat × Nat)) (ok : Nat → Bool) : Bool :=
  L.all fun l => ok l.2 || PA.any fun q => q.1 == i && q.2.1 == l.1 && decide (q.2.2.length < F) && pathB ops i q.2.2 l.1
theorem waitsP_ok {F : Nat} {PA : List (Nat × Nat × List Nat)} {i : Nat} {L : List (Nat × Nat)} {ok : Nat → Bool} (h : waitsP ops F PA i L ok = true) : waitsB ops F i L ok = true := by
  unfold waitsP at h
  unfold waitsB
  rw [List.all_eq_true] at h ⊢
  intro l hl
  have h1 := h l hl
  simp only [Bool.or_eq_true] at h1 ⊢
  rcases h1 with h1 | h1
  · exact .inl h1
  · right
    rw [List.any_eq_true] at h1
    obtain ⟨q, _, h2⟩ := h1
    simp only [Bool.and_eq_true, decide_eq_true_eq] at h2
    exact pathB_ok h2.2 h2.1.2
def actOkP (ops : Array Oper) (F : Nat) (PA : List (Nat × Nat × List Nat)) (i m : Nat) (L : List (Nat × Nat)) : Bool := match m with
  | 3 => waitsP ops F PA i L (fun s => s != 0)
  | 5 => waitsP ops F PA i L (fun s => s == 2)
  | _ => waitsP ops F PA i L (fun _ => false)
theorem actOkP_ok {F : Nat} {PA : List (Nat × Nat × List Nat)} {i m : Nat} {L : List (Nat × Nat)} (h : actOkP ops F PA i m L = true) : actOk ops F i m L = true := by
  unfold actOkP at h
  unfold actOk
  split at h
  · exact waitsP_ok h
  · exact waitsP_ok h
  · rename_i h3 h5
    split
    · exact absurd rfl (h3 ·)
    · exact absurd rfl (h5 ·)
    · exact waitsP_ok h
def flowOkP (P : Program) (ops : Array Oper) (F : Nat) (PA : List (Nat × Nat × List Nat)) (act : Nat → Bool) : List (Nat × Nat) → Array Bool → List (Nat × Nat) → Bool → Bool
  | [], listed, _, _ => (Region.ready .any ops listed).isEmpty
  | (i, m) :: rest, listed, L, st => match ops[i]? with
    | none => false
    | some o => (Region.ready .any ops listed).contains i && (match m with
      | 0 => opKind P o == 0 && Region.free .any ops listed i && !act i && flowOkP P ops F PA act rest (listed.setIfInBounds i true) L st
      | 1 => opKind P o == 1 && Region.free .any ops listed i && !act i && flowOkP P ops F PA act rest (listed.setIfInBounds i true) ((i, if st then 1 else 2) :: L) st
      | _ => act i && Region.ready .any ops listed == [i] && actOkP ops F PA i m L && flowOkP P ops F PA act rest (listed.setIfInBounds i true) (L.map fun l => (l.1, actNext m l.2)) true)
theorem flowOkP_ok {F : Nat} {PA : List (Nat × Nat × List Nat)} {act : Nat → Bool} : ∀ {c : List (Nat × Nat)} {listed : Array Bool} {L : List (Nat × Nat)} {st : Bool}, flowOkP P ops F PA act c listed L st = true → flowOk P ops F act c listed L st = true
  | [], listed, L, st, h => h
  | (i, m) :: rest, listed, L, st, h => by
    unfold flowOkP at h
    unfold flowOk
    split at h
    · cases h
    · rename_i o ho
      rw [ho]
      simp only [Bool.and_eq_true] at h ⊢
      refine ⟨h.1, ?_⟩
      have h2 := h.2
      split at h2
      · simp only [Bool.and_eq_true] at h2 ⊢
        exact ⟨h2.1, flowOkP_ok h2.2⟩
      · simp only [Bool.and_eq_true] at h2 ⊢
        exact ⟨h2.1, flowOkP_ok h2.2⟩
      · rename_i h3 h5
        split
        · exact absurd rfl (h3 ·)
        · exact absurd rfl (h5 ·)
        · simp only [Bool.and_eq_true] at h2 ⊢
          exact ⟨⟨h2.1.1, actOkP_ok h2.1.2⟩, flowOkP_ok h2.2⟩
def regionOkP (P : Program) (ops : Array Oper) (PA : List (Nat × Nat × List Nat)) (segs : List (Bool × List (Nat × Nat))) : Bool :=
  P.follows .mixedOrders && Region.noSelect ops && (flat segs).length == ops.size && kindsOk P ops (flat segs) && stableB ops (segL ops (flat segs)) && segsOk segs &&
    flowOkP P ops ops.size PA (fun j => (flat segs).any fun p => p.1 == j && decide (2 ≤ p.2)) (flat segs) (Array.replicate ops.size false) [] false
/-- As region_flow, with paths. -/
theorem region_flowP (PA : List (Nat × Nat × List Nat)) (segs : List (Bool × List (Nat × Nat))) {id : Nat} {l : List Oper} {Q : Exit → Act → World → Prop} {a : Act} {w : World} (hok : regionOkP P l.toArray PA segs = true)
    (h : wpSegs P l.toArray (fun a' w' => shapesB l.toArray (flat segs) a' = true ∧ Q .normal a' w') w.drew segs a w.drew) : (Code.region id l.toArray true).wp P Q a w := by
  refine region_flow segs ?_ h
  unfold regionOkP at hok
  unfold regionOk
  simp only [Bool.and_eq_true] at hok ⊢
  exact ⟨hok.1, flowOkP_ok hok.2⟩
end
end Go.Proofs.YtacfanjejaellaaGreat
