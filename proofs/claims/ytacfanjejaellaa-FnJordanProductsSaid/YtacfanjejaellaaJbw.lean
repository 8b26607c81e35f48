/- Texts joined for a claim: JorA, HeB, HeH, MarkJ, LawT, LJordanTimes, FlowP. -/
import Derived.Test.YtacfanjejaellaaJbu
import Derived.Test.YtacfanjejaellaaJbv
import Derived.Test.YtacfanjejaellaaJbg
import Derived.Test.YtacfanjejaellaaJas
import Derived.Test.YtacfanjejaellaaJbh
import Derived.Test.YtacfanjejaellaaJat
import Derived.Test.YtacfanjejaellaaJbj
import Derived.Test.YtacfanjejaellaaFlow
/-
  Jordan's laws for matrices as rows of numbers: products, the characteristic equation. No program in sight.
-/
namespace Go.Proofs.Ytacfanjejaellaa

/-- Numbers mod p as Fin n, with a half of 1, and no divisors of 0. -/
theorem IsP.lift {p : Int} (hp : IsP p) {Q : Prop} (h : ∀ (n : Nat) [NeZero n], p = (n : Int) → 2 * toF n (invL p 2) = 1 → Fld n → Q) : Q := by
  rcases hp with rfl | rfl | rfl | rfl | rfl
  · exact h 3 rfl (by decide) fld3
  · exact h 5 rfl (by decide) fld5
  · exact h 7 rfl (by decide) fld7
  · exact h 11 rfl (by decide) fld11
  · exact h 13 rfl (by decide) fld13
theorem unitH_is {p : Int} {n : Nat} (hp : 2 ≤ p) : isH p n (unitH n) = true := isH_mk ⟨by omega, by omega⟩ ⟨by omega, by omega⟩ ⟨by omega, by omega⟩ (zero_ev hp) (zero_ev hp) (zero_ev hp)
section
variable {p : Int} {st : List Int} {X Y : Her}
theorem jor_comm (hd : Dok p st) (hX : isH p (sz st.length) X = true) (hY : isH p (sz st.length) Y = true) : jordanH p st Y X = jordanH p st X Y := by
  have h2 : 2 ≤ p := by have := hd.hp.lo; omega
  refine hd.hp.lift fun n _ hn hiv _ => toH_inj (n := n) hn (sz_le hd).2 (jordanH_is h2 hY hX) (jordanH_is h2 hX hY) ?_
  rw [toH_jordan hn h2 hd.hl hY hX hiv, toH_jordan hn h2 hd.hl hX hY hiv, JC_comm]
theorem jor_unit (hd : Dok p st) (hX : isH p (sz st.length) X = true) : jordanH p st X (unitH (sz st.length)) = X := by
  have h2 : 2 ≤ p := by have := hd.hp.lo; omega
  have hU : isH p (sz st.length) (unitH (sz st.length)) = true := unitH_is h2
  refine hd.hp.lift fun n _ hn hiv _ => toH_inj (n := n) hn (sz_le hd).2 (jordanH_is h2 hX hU) hX ?_
  rw [toH_jordan hn h2 hd.hl hX hU hiv, toH_unit, JC_one _ _ _ _ hiv]
theorem jor_id (hd : Dok p st) (hX : isH p (sz st.length) X = true) (hY : isH p (sz st.length) Y = true) :
    jordanH p st (jordanH p st X X) (jordanH p st X Y) = jordanH p st (jordanH p st (jordanH p st X X) Y) X := by
  have h2 : 2 ≤ p := by have := hd.hp.lo; omega
  have hS := jordanH_is h2 hX hX
  have hP := jordanH_is h2 hX hY
  have hQ := jordanH_is h2 hS hY
  refine hd.hp.lift fun n _ hn hiv _ => toH_inj (n := n) hn (sz_le hd).2 (jordanH_is h2 hS hP) (jordanH_is h2 hQ hX) ?_
  rw [toH_jordan hn h2 hd.hl hS hP hiv, toH_jordan hn h2 hd.hl hQ hX hiv, toH_jordan hn h2 hd.hl hS hY hiv, toH_jordan hn h2 hd.hl hX hY hiv, toH_jordan hn h2 hd.hl hX hX hiv,
    JC_comm _ _ _ _ (toH n X) (toH n Y), jordan_id _ _ _ _ hiv]
theorem pow_three (hd : Dok p st) (hX : isH p (sz st.length) X = true) : powH p st X 3 = jordanH p st (jordanH p st X X) X := by
  have h2 : 2 ≤ p := by have := hd.hp.lo; omega
  show jordanH p st (jordanH p st (jordanH p st (unitH (sz st.length)) X) X) X = _
  rw [jor_comm hd hX (unitH_is h2), jor_unit hd hX]
theorem jor_char (hd : Dok p st) (hX : isH p (sz st.length) X = true) :
    sumH p (sumH p (sumH p (powH p st X 3) (-traceH p X) (jordanH p st X X)) (traceH p (adjH p st X)) X) (-detH p st X) (unitH (sz st.length)) = sumH p (unitH (sz st.length)) (-1) (unitH (sz st.length)) := by
  have h2 : 2 ≤ p := by have := hd.hp.lo; omega
  have hU : isH p (sz st.length) (unitH (sz st.length)) = true := unitH_is h2
  have hS := jordanH_is h2 hX hX
  have hC := jordanH_is h2 hS hX
  have hA := adjH_is h2 hX
  rw [pow_three hd hX]
  have h1 := sumH_is (p := p) (k := -traceH p X) (by omega) hC hS
  have h3 := sumH_is (p := p) (k := traceH p (adjH p st X)) (by omega) h1 hX
  have h4 := sumH_is (p := p) (k := -detH p st X) (by omega) h3 hU
  have h5 := sumH_is (p := p) (k := -1) (by omega) hU hU
  refine hd.hp.lift fun n _ hn hiv _ => toH_inj (n := n) hn (sz_le hd).2 h4 h5 ?_
  rw [toH_sum hn h3 hU, toH_sum hn h1 hX, toH_sum hn hC hS, toH_sum hn hU hU, toH_jordan hn h2 hd.hl hS hX hiv, toH_jordan hn h2 hd.hl hX hX hiv, toH_unit, toF_neg, toF_neg, toF_neg, toF_one, toF_trace hn, toF_trace hn, toH_adj hn h2 hd.hl hX, toF_det hn h2 hd.hl hX, char_eq _ _ _ _ hiv]
  unfold SC MC
  apply H3.ext <;> first | (unfold oad osc one3 ore; apply Oc.ext <;> grind) | (unfold one3; grind)
end
end Go.Proofs.Ytacfanjejaellaa
/-
  The laws' dice: the same as the source of the draws, over another struct.
-/
namespace Go.Proofs.Ytacfanjejaellaa
open Go.RowKit

end Go.Proofs.Ytacfanjejaellaa
/-
  The laws' bound on codes.
-/
namespace Go.Proofs.Ytacfanjejaellaa
open Go.RowKit

theorem big_c {a : Option Addr} {n c : Nat} {w : World} (hn : n ≤ 9223372036854775807) :
    Calls Try.prog 4 #[.slice a n c] w fun e w' => e = .returned (.bool (decide (4096 < n))) ∧ w = w' := by
  by_cases h : 4096 < n
  · have h2 : (4096 : Int) < (n : Int) := by omega
    rw [decide_eq_true h]
    go_enter Try.func4, Try.ntmps4
    go_wp2
    go_ret
    exact ⟨rfl, rfl⟩
  · have h2 : ¬ (4096 : Int) < (n : Int) := by omega
    rw [decide_eq_false h]
    go_enter Try.func4, Try.ntmps4
    go_wp2
    go_ret
    exact ⟨rfl, rfl⟩
end Go.Proofs.Ytacfanjejaellaa
/-
  Sizes of matrices that passed the laws' size check.
-/
namespace Go.Proofs.Ytacfanjejaellaa
open Go.RowKit

theorem szGo_sum : ∀ {xss : List (List Int)} {left : Int}, 0 ≤ left → ¬ szGo left xss < 0 → (sumL xss : Int) ≤ left
  | [], left, h0, _ => by simpa [sumL] using h0
  | x :: xs, left, h0, h => by
    rw [szGo_cons] at h
    split at h
    · exact absurd (by decide) h
    · have := szGo_sum (xss := xs) (by omega) h
      simp only [sumL]
      omega
theorem szH_hs {X : Her} {left : Int} (h0 : 0 ≤ left) (h1 : left ≤ 1048576) (h : ¬ szH left X < 0) : Hs X := by
  refine ⟨szH_pos h0 h1 h, ?_⟩
  unfold szH szR at h
  split at h
  · exact absurd (by decide) h
  · split at h
    · exact absurd (by decide) h
    · have := szGo_sum (by omega) h
      omega
end Go.Proofs.Ytacfanjejaellaa
/-
  What the laws with a matrix as result need beside: results kept over a store into an older block.
-/
namespace Go.Proofs.Ytacfanjejaellaa
open Go.RowKit

theorem OwH.set_ {w : World} {B : Nat} {v : Value} {X : Her} (h : OwH w B v X) {p : Addr} (hp : p.block < B) (u : Value) : OwH (w.setCell p u) B v X := by
  rcases h with h | h
  · exact .inl h
  · exact .inr (h.set_ hp u)
theorem OwH.hr {w : World} {B : Nat} {v : Value} {X : Her} (h : OwH w B v X) : Hr w v X := h.hv.hr
theorem Hs.none : Hs ⟨[], []⟩ := ⟨⟨by simp, by simp, fun xs hx => by simp at hx⟩, by simp [sumL]⟩
theorem isH_hs {p : Int} {st : List Int} {X : Her} (hd : Dok p st) (h : isH p (sz st.length) X = true) : Hs X := by
  have hs := sz_le hd
  obtain ⟨a, b, c, u, v, t, rfl, _, _, _, _, _, _, h1, h2, h3⟩ := isH_op h
  have e1 := h1.1; have e2 := h2.1; have e3 := h3.1
  refine ⟨⟨by simp, by simp, fun xs hx => ?_⟩, ?_⟩
  · simp only [List.mem_cons, List.not_mem_nil, or_false] at hx
    rcases hx with rfl | rfl | rfl <;> omega
  · simp only [sumL]; omega
end Go.Proofs.Ytacfanjejaellaa
/-
  JordanTimes: the law.
-/
namespace Go.Proofs.Ytacfanjejaellaa
open Go.RowKit

theorem RJordanTimes0_len (p : Int) (st : List Int) (X Y : Her) (_ : st.length ≤ 1048576) (_ : Hsz X) (_ : Hsz Y) : Hs (RJordanTimes0 p st X Y) := by
  unfold RJordanTimes0
  split
  · rename_i h
    obtain ⟨hd, hall⟩ := chkH_pos h
    exact isH_hs hd (jordanH_is (by have := hd.hp.lo; omega) (by simp at hall; exact hall.1) (by simp at hall; exact hall.2))
  · exact Hs.none

end Go.Proofs.Ytacfanjejaellaa
/-
  Regions that draw their order, with many operations: that an operation waits for a load is shown by a path, not by a search. Plain lemmas over any program.
-/
namespace Go.Proofs.Ytacfanjejaellaa
open Go.RowKit

section
variable {P : Program} {ops : Array Oper}
def edgeB (ops : Array Oper) (j k : Nat) : Bool := match ops[j]? with
  | none => false
  | some o => o.after.any fun e => Region.binds .any e && e.on == k
def pathB (ops : Array Oper) : Nat → List Nat → Nat → Bool
  | j, [], i => edgeB ops j i
  | j, k :: r, i => edgeB ops j k && pathB ops k r i
theorem pathB_ok {i : Nat} : ∀ {r : List Nat} {F j : Nat}, pathB ops j r i = true → r.length < F → waitsIn .any ops F j i = true
  | [], 0, j, h, hF => by simp at hF
  | [], F + 1, j, h, hF => by
    unfold pathB edgeB at h
    unfold waitsIn
    split at h
    · cases h
    · rename_i o ho
      rw [ho]
      simp only [Array.any_eq_true] at h ⊢
      obtain ⟨m, hm, h2⟩ := h
      refine ⟨m, hm, ?_⟩
      simp only [Bool.and_eq_true] at h2 ⊢
      exact ⟨h2.1, by rw [h2.2]; rfl⟩
  | k :: r, 0, j, h, hF => by simp at hF
  | k :: r, F + 1, j, h, hF => by
    unfold pathB at h
    simp only [Bool.and_eq_true] at h
    obtain ⟨h1, h2⟩ := h
    have ih := pathB_ok (F := F) h2 (by simp at hF; omega)
    unfold edgeB at h1
    unfold waitsIn
    split at h1
    · cases h1
    · rename_i o ho
      rw [ho]
      simp only [Array.any_eq_true] at h1 ⊢
      obtain ⟨m, hm, h3⟩ := h1
      refine ⟨m, hm, ?_⟩
      simp only [Bool.and_eq_true, beq_iff_eq] at h3 ⊢
      refine ⟨h3.1, ?_⟩
      rw [h3.2, ih]; simp
def waitsP (ops : Array Oper) (F : Nat) (PA : List (Nat × Nat × List Nat)) (i : Nat) (L : List (Nat × Nat)) (ok : Nat → Bool) : Bool :=
  L.all fun l => ok l.2 || PA.any fun q => q.1 == i && q.2.1 == l.1 && decide (q.2.2.length < F) && pathB ops i q.2.2 l.1
theorem waitsP_ok {F : Nat} {PA : List (Nat × Nat × List Nat)} {i : Nat} {L : List (Nat × Nat)} {ok : Nat → Bool} (h : waitsP ops F PA i L ok = true) : waitsB ops F i L ok = true := by
  unfold waitsP at h
  unfold waitsB
  rw [List.all_eq_true] at h ⊢
  intro l hl
  have h1 := h l hl
  simp only [Bool.or_eq_true] at h1 ⊢
  rcases h1 with h1 | h1
  · exact .inl h1
  · right
    rw [List.any_eq_true] at h1
    obtain ⟨q, _, h2⟩ := h1
    simp only [Bool.and_eq_true, decide_eq_true_eq] at h2
    exact pathB_ok h2.2 h2.1.2
def actOkP (ops : Array Oper) (F : Nat) (PA : List (Nat × Nat × List Nat)) (i m : Nat) (L : List (Nat × Nat)) : Bool := match m with
  | 3 => waitsP ops F PA i L (fun s => s != 0)
  | 5 => waitsP ops F PA i L (fun s => s == 2)
  | _ => waitsP ops F PA i L (fun _ => false)
theorem actOkP_ok {F : Nat} {PA : List (Nat × Nat × List Nat)} {i m : Nat} {L : List (Nat × Nat)} (h : actOkP ops F PA i m L = true) : actOk ops F i m L = true := by
  unfold actOkP at h
  unfold actOk
  split at h
  · exact waitsP_ok h
  · exact waitsP_ok h
  · rename_i h3 h5
    split
    · exact absurd rfl (h3 ·)
    · exact absurd rfl (h5 ·)
    · exact waitsP_ok h
def flowOkP (P : Program) (ops : Array Oper) (F : Nat) (PA : List (Nat × Nat × List Nat)) (act : Nat → Bool) : List (Nat × Nat) → Array Bool → List (Nat × Nat) → Bool → Bool
  | [], listed, _, _ => (Region.ready .any ops listed).isEmpty
  | (i, m) :: rest, listed, L, st => match ops[i]? with
    | none => false
    | some o => (Region.ready .any ops listed).contains i && (match m with
      | 0 => opKind P o == 0 && Region.free .any ops listed i && !act i && flowOkP P ops F PA act rest (listed.setIfInBounds i true) L st
      | 1 => opKind P o == 1 && Region.free .any ops listed i && !act i && flowOkP P ops F PA act rest (listed.setIfInBounds i true) ((i, if st then 1 else 2) :: L) st
      | _ => act i && Region.ready .any ops listed == [i] && actOkP ops F PA i m L && flowOkP P ops F PA act rest (listed.setIfInBounds i true) (L.map fun l => (l.1, actNext m l.2)) true)
theorem flowOkP_ok {F : Nat} {PA : List (Nat × Nat × List Nat)} {act : Nat → Bool} : ∀ {c : List (Nat × Nat)} {listed : Array Bool} {L : List (Nat × Nat)} {st : Bool}, flowOkP P ops F PA act c listed L st = true → flowOk P ops F act c listed L st = true
  | [], listed, L, st, h => h
  | (i, m) :: rest, listed, L, st, h => by
    unfold flowOkP at h
    unfold flowOk
    split at h
    · cases h
    · rename_i o ho
      rw [ho]
      simp only [Bool.and_eq_true] at h ⊢
      refine ⟨h.1, ?_⟩
      have h2 := h.2
      split at h2
      · simp only [Bool.and_eq_true] at h2 ⊢
        exact ⟨h2.1, flowOkP_ok h2.2⟩
      · simp only [Bool.and_eq_true] at h2 ⊢
        exact ⟨h2.1, flowOkP_ok h2.2⟩
      · rename_i h3 h5
        split
        · exact absurd rfl (h3 ·)
        · exact absurd rfl (h5 ·)
        · simp only [Bool.and_eq_true] at h2 ⊢
          exact ⟨⟨h2.1.1, actOkP_ok h2.1.2⟩, flowOkP_ok h2.2⟩
def regionOkP (P : Program) (ops : Array Oper) (PA : List (Nat × Nat × List Nat)) (segs : List (Bool × List (Nat × Nat))) : Bool :=
  P.follows .mixedOrders && Region.noSelect ops && (flat segs).length == ops.size && kindsOk P ops (flat segs) && stableB ops (segL ops (flat segs)) && segsOk segs &&
    flowOkP P ops ops.size PA (fun j => (flat segs).any fun p => p.1 == j && decide (2 ≤ p.2)) (flat segs) (Array.replicate ops.size false) [] false
/-- As region_flow, with paths. -/
theorem region_flowP (PA : List (Nat × Nat × List Nat)) (segs : List (Bool × List (Nat × Nat))) {id : Nat} {l : List Oper} {Q : Exit → Act → World → Prop} {a : Act} {w : World} (hok : regionOkP P l.toArray PA segs = true)
    (h : wpSegs P l.toArray (fun a' w' => shapesB l.toArray (flat segs) a' = true ∧ Q .normal a' w') w.drew segs a w.drew) : (Code.region id l.toArray true).wp P Q a w := by
  refine region_flow segs ?_ h
  unfold regionOkP at hok
  unfold regionOk
  simp only [Bool.and_eq_true] at hok ⊢
  exact ⟨hok.1, flowOkP_ok hok.2⟩
end
end Go.Proofs.Ytacfanjejaellaa
