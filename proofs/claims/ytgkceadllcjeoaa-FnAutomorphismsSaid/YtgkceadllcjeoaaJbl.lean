/- Texts joined for a claim: TgC, MarkJ, LawT, LawM, LawTr. -/
import Derived.Test.YtgkceadllcjeoaaTgA
import Derived.Test.YtgkceadllcjeoaaJak
import Derived.Test.YtgkceadllcjeoaaJaw
import Derived.Test.YtgkceadllcjeoaaJan
import Derived.Test.YtgkceadllcjeoaaJap
/-
  The cyclic forms of a doubling's basis: the program's table, walked.
-/
namespace Go.Proofs.Ytgkceadllcjeoaa
open Go.RowKit

def OwM (w : World) (B : Nat) (v : Value) (us : List Value) : Prop := w.ownsRow B 27 1 v us.length us
theorem apartE {w : World} {E1 E2 : TypeId} {B B' n m : Nat} {v u : Value} {zs ys : List Value} (hE : E1 ≠ E2) (h : w.ownsRow B E1 1 v n zs) (k : w.ownsRow B' E2 1 u m ys) : v.ownBlock = none ∨ v.ownBlock ≠ u.ownBlock := by
  cases hv : v.ownBlock with
  | none => exact .inl rfl
  | some g =>
    refine .inr fun e => ?_
    obtain ⟨c1, h1⟩ := row_type h hv
    obtain ⟨c2, h2⟩ := row_type k e.symm
    rw [h1] at h2
    injection h2 with h3
    injection h3 with _ h4
    exact hE h4
def PlF (w : World) (B : Nat) (v : Value) (rows : List (List Int)) : Prop := ∃ g cap us, v = .slice (some ⟨g, 0, none⟩) us.length cap ∧ OwV w B v us ∧ RowsF w B us rows
def PlsF (w : World) (B : Nat) (us : List Value) (ps : List (List (List Int))) : Prop := us.length = ps.length ∧ ∀ j (h : j < us.length) (h' : j < ps.length), PlF w B us[j] ps[j]
section
variable {w w' : World} {B B' : Nat} {v vo : Value} {us uo : List Value} {rows : List (List Int)} {ps : List (List (List Int))}
theorem OwM.new (h : B ≤ w.heap.size) : OwM (w.alloc (.cells #[] 27)) B (.slice (some ⟨w.heap.size, 0, none⟩) 0 0) [] := World.ownsRow_made _ _ _ h (by decide) rfl
theorem OwM.below (h : OwM w B v us) (hb : Below w.heap.size w w') : OwM w' B v us := World.ownsRow.kept h (row := none) ⟨hb.os, hb.tape, hb.output, hb.size, fun i hi _ => hb.block i hi⟩ (by
  cases v.ownBlock <;> simp)
theorem PlF.below (h : PlF w B v rows) (hb : Below w.heap.size w w') : PlF w' B v rows := by
  obtain ⟨g, cap, us, rfl, h1, h2⟩ := h
  exact ⟨g, cap, us, rfl, h1.below hb, h2.below hb⟩
theorem own_lower {E : TypeId} {n : Nat} {zs : List Value} (h : w.ownsRow B E 1 v n zs) (hB : B' ≤ B) : w.ownsRow B' E 1 v n zs := by
  refine ⟨h.1, ?_⟩
  rcases h.2 with h2 | ⟨g', cap', cur, h3, h4, h5⟩
  · exact .inl h2
  · exact .inr ⟨g', cap', cur, h3, Nat.le_trans hB h4, h5⟩
theorem PlF.more (h : PlF w B v rows) (hB : B' ≤ B) : PlF w B' v rows := by
  obtain ⟨g, cap, us, rfl, h1, h2⟩ := h
  refine ⟨g, cap, us, rfl, own_lower h1 hB, h2.1, fun j a b => (h2.2 j a b).more hB⟩
theorem PlF.app (h : PlF w B v rows) (ho : OwM w B' vo uo) (hg : w.grownBy w' vo.ownBlock) : PlF w' B v rows := by
  obtain ⟨g, cap, us, rfl, h1, h2⟩ := h
  refine ⟨g, cap, us, rfl, h1.kept hg (apartE (by decide) h1 ho), h2.1, fun j a b => (h2.2 j a b).kept hg ?_⟩
  obtain ⟨gj, hgu, _⟩ := (h2.2 j a b).blk
  rcases apartE (by decide) (h2.2 j a b).own ho with e | e
  · rw [hgu] at e; cases e
  · exact e
theorem PlsF.nil (w : World) (B : Nat) : PlsF w B [] [] := ⟨rfl, fun j h => by simp at h⟩
theorem PlsF.below (h : PlsF w B us ps) (hb : Below w.heap.size w w') : PlsF w' B us ps := ⟨h.1, fun j a b => (h.2 j a b).below hb⟩
theorem PlsF.app (h : PlsF w B us ps) (ho : OwM w B' vo uo) (hg : w.grownBy w' vo.ownBlock) : PlsF w' B us ps := ⟨h.1, fun j a b => (h.2 j a b).app ho hg⟩
theorem PlsF.snoc {u : Value} (h : PlsF w B us ps) (hu : PlF w B u rows) : PlsF w B (us ++ [u]) (ps ++ [rows]) := by
  refine ⟨by simp [h.1], fun j a b => ?_⟩
  rw [List.length_append] at a
  simp at a
  by_cases hj : j < us.length
  · have := h.1
    rw [List.getElem_append_left hj, List.getElem_append_left (by omega)]
    exact h.2 j hj (by omega)
  · obtain rfl : j = us.length := by omega
    have e := h.1
    have h1 : (us ++ [u])[us.length]'(by simp) = u := by simp
    have h2 : (ps ++ [rows])[us.length]'(by simp [e]) = rows := by simp [e]
    rw [h1, h2]; exact hu
end
section
variable {ops : Array Oper} {rest : List Oper} {o : Oper} {a : Act} {Q : Exit → Act → World → Prop}
end
def Cu (w : World) (b n : Nat) (F : Nat → Nat → Nat → Int) : Prop := ∀ i, i < n → ∃ b2 c2, w.cell? ⟨b, i, none⟩ = some (.slice (some ⟨b2, 0, none⟩) n c2) ∧ ∀ j, j < n → ∃ b3 c3, w.cell? ⟨b2, j, none⟩ = some (.slice (some ⟨b3, 0, none⟩) n c3) ∧ ∀ k, k < n → w.cell? ⟨b3, k, none⟩ = some (.int .i64 (F i j k))
theorem Cu.below {w w' : World} {b n : Nat} {F : Nat → Nat → Nat → Int} (h : Cu w b n F) (hb : Below w.heap.size w w') : Cu w' b n F := fun i hi => by
  obtain ⟨b2, c2, h1, h2⟩ := h i hi
  refine ⟨b2, c2, kept hb h1, fun j hj => ?_⟩
  obtain ⟨b3, c3, h3, h4⟩ := h2 j hj
  exact ⟨b3, c3, kept hb h3, fun k hk => kept hb (h4 k hk)⟩
theorem PlsF.cu {w : World} {B B' g cap n : Nat} {us : List Value} {F : Nat → Nat → Nat → Int} (h : PlsF w B us ((List.range n).map fun i => (List.range n).map fun j => (List.range n).map fun k => F i j k)) (ho : OwM w B' (.slice (some ⟨g, 0, none⟩) us.length cap) us) : Cu w g n F := by
  have hl : us.length = n := by have := h.1; simpa using this
  refine fun i hi => ?_
  obtain ⟨g2, c2, us2, e, h1, h2⟩ := h.2 i (by omega) (by simp; omega)
  have hl2 : us2.length = n := by have := h2.1; simpa using this
  have hc := World.ownsRow.cells ho (g := g) rfl i (us[i]'(by omega)) (by simp)
  rw [addz] at hc
  refine ⟨g2, c2, by rw [hc, e, hl2], fun j hj => ?_⟩
  obtain ⟨g3, c3, e3, h4⟩ := h2.2 j (by omega) (by simp; omega)
  have hc2 := World.ownsRow.cells h1 (g := g2) (by rw [e]; rfl) j (us2[j]'(by omega)) (by simp)
  rw [addz] at hc2
  refine ⟨g3, c3, by rw [hc2, e3]; simp, fun k hk => ?_⟩
  rw [h4.hold (i := k) (by simp; exact hk)]
  simp [List.getD_eq_getElem?_getD, hk]
end Go.Proofs.Ytgkceadllcjeoaa
/-
  Sizes of matrices that passed the laws' size check.
-/
namespace Go.Proofs.Ytgkceadllcjeoaa
open Go.RowKit

end Go.Proofs.Ytgkceadllcjeoaa
/-
  What the laws with a matrix as result need beside: results kept over a store into an older block.
-/
namespace Go.Proofs.Ytgkceadllcjeoaa
open Go.RowKit

theorem OwH.set_ {w : World} {B : Nat} {v : Value} {X : Her} (h : OwH w B v X) {p : Addr} (hp : p.block < B) (u : Value) : OwH (w.setCell p u) B v X := by
  rcases h with h | h
  · exact .inl h
  · exact .inr (h.set_ hp u)
theorem OwH.hr {w : World} {B : Nat} {v : Value} {X : Her} (h : OwH w B v X) : Hr w v X := h.hv.hr
theorem Hs.none : Hs ⟨[], []⟩ := ⟨⟨by simp, by simp, fun xs hx => by simp at hx⟩, by simp [sumL]⟩
end Go.Proofs.Ytgkceadllcjeoaa
/-
  The laws' helpers over rows of rows that are parameters.
-/
namespace Go.Proofs.Ytgkceadllcjeoaa
open Go.RowKit

structure Msz (M : List (List Int)) : Prop where
  h2 : M.length ≤ 1048576
  h3 : ∀ xs ∈ M, xs.length ≤ 1048576
  sum : sumL M ≤ 10000000
theorem FrR.rs {w : World} {B : Nat} {v : Value} {us : List Value} {xss : List (List Int)} (h : FrR w B v us xss) : Rs w v xss := h.re.rs
theorem RgR.chg {w w' : World} {lo hi lo' hi' : Nat} {v : Value} {us : List Value} {xss : List (List Int)} (h : RgR w lo' hi' v us xss) (hc : Chg lo hi w w') (hr : hi ≤ lo') : RgR w' lo' hi' v us xss := by
  obtain ⟨⟨k1, k2, k3, k4⟩, h5⟩ := h
  have far : ∀ {v : Value} {xs : List Int}, OwI w lo' v xs → OwI w' lo' v xs := fun ho => OwI.chg hc ho (fun g hg => .inr (Nat.le_trans hr (ho.blk g hg).1))
  refine ⟨⟨k1, fun j a b => far (k2 j a b), k3, k4⟩, ?_⟩
  rcases h5 with h5 | ⟨g, cap, rfl, h6, h7, h8⟩
  · exact .inl h5
  · exact .inr ⟨g, cap, rfl, ⟨h6.1, Nat.lt_of_lt_of_le h6.2 hc.size⟩, fun j a => hc.cell (h7 j a) (.inr (by omega)), h8⟩
end Go.Proofs.Ytgkceadllcjeoaa
/-
  The laws' helpers over triples of matrices that are parameters: sizes, copies, comparison.
-/
namespace Go.Proofs.Ytgkceadllcjeoaa
open Go.RowKit

def Tri (w : World) (v : Value) (A B C : List (List Int)) : Prop := ∃ a b c, v = .agg #[a, b, c] ∧ Rs w a A ∧ Rs w b B ∧ Rs w c C
def Tv (w : World) (v : Value) (A B C : List (List Int)) : Prop := ∃ a b c, v = .agg #[a, b, c] ∧ Re w a A ∧ Re w b B ∧ Re w c C
section
variable {w w' : World} {v : Value} {A B C : List (List Int)}
theorem Tri.below (h : Tri w v A B C) (hb : Below w.heap.size w w') : Tri w' v A B C := by
  obtain ⟨a, b, c, rfl, h1, h2, h3⟩ := h
  exact ⟨a, b, c, rfl, h1.below hb, h2.below hb, h3.below hb⟩
theorem Tv.below (h : Tv w v A B C) (hb : Below w.heap.size w w') : Tv w' v A B C := by
  obtain ⟨a, b, c, rfl, h1, h2, h3⟩ := h
  exact ⟨a, b, c, rfl, h1.below hb, h2.below hb, h3.below hb⟩
theorem Tv.tr (h : Tv w v A B C) : Tri w v A B C := by
  obtain ⟨a, b, c, rfl, h1, h2, h3⟩ := h
  exact ⟨a, b, c, rfl, h1.rs, h2.rs, h3.rs⟩
end
def Bt (w : World) (b : Nat) (x y z : Value) : Prop := w.heap[b]? = some (.cells #[x, y, z] 52 (0, 0))
section
variable {w w' : World} {b : Nat} {x y z : Value}
theorem Bt.lt (h : Bt w b x y z) : b < w.heap.size := (Array.getElem?_eq_some_iff.1 h).1
theorem Bt.c0 (h : Bt w b x y z) : w.cell? ⟨b, 0, none⟩ = some x := by
  unfold Bt at h; simp [World.cell?, h]
theorem Bt.c1 (h : Bt w b x y z) : w.cell? ⟨b, 1, none⟩ = some y := by
  unfold Bt at h; simp [World.cell?, h]
theorem Bt.c2 (h : Bt w b x y z) : w.cell? ⟨b, 2, none⟩ = some z := by
  unfold Bt at h; simp [World.cell?, h]
theorem Bt.f (h : Bt w b x y z) (i : Nat) : w.frozen? ⟨b, i, none⟩ = false := frozen_of_row _ _ _ _ _ h
theorem Bt.below (h : Bt w b x y z) (hb : Below w.heap.size w w') : Bt w' b x y z := by
  have hl := h.lt
  unfold Bt at h ⊢
  rw [hb.block b hl]; exact h
theorem Bt.set0 (h : Bt w b x y z) (v : Value) : Bt (w.setCell ⟨b, 0, none⟩ v) b v y z := heap_setCell_same _ _ _ _ _ _ h
theorem Bt.set1 (h : Bt w b x y z) (v : Value) : Bt (w.setCell ⟨b, 1, none⟩ v) b x v z := heap_setCell_same _ _ _ _ _ _ h
theorem Bt.set2 (h : Bt w b x y z) (v : Value) : Bt (w.setCell ⟨b, 2, none⟩ v) b x y v := heap_setCell_same _ _ _ _ _ _ h
theorem Bt.far (h : Bt w b x y z) {p : Addr} (hp : b ≠ p.block) (v : Value) : Bt (w.setCell p v) b x y z := by
  unfold Bt at h ⊢
  rw [Below.heap_setCell _ _ _ _ hp]; exact h
end
end Go.Proofs.Ytgkceadllcjeoaa
