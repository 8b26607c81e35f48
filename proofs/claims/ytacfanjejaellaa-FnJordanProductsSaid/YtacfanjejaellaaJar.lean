/- Texts joined for a claim: LawH, Mark. -/
import Derived.Test.YtacfanjejaellaaHcB
import Derived.Test.YtacfanjejaellaaTree
import Derived.Deep.DeepCutAuto
/-
  The laws' helpers over doublings and hermitian matrices: sizes, copies, comparison.
-/
namespace Go.Proofs.Ytacfanjejaellaa
open Go.RowKit

/-- Rows of rows that came in. -/
def Rs (w : World) (v : Value) (xss : List (List Int)) : Prop :=
  ∃ a c, v = .slice a xss.length c ∧ (xss = [] ∨ ∃ b off, a = some ⟨b, off, none⟩ ∧ ∀ j (h : j < xss.length), ∃ u, w.cell? ⟨b, off + j, none⟩ = some u ∧ Sl w u xss[j])
theorem Rs.below {w w' : World} {v : Value} {xss : List (List Int)} (h : Rs w v xss) (hb : Below w.heap.size w w') : Rs w' v xss := by
  obtain ⟨a, c, rfl, h⟩ := h
  refine ⟨a, c, rfl, ?_⟩
  rcases h with h | ⟨b, off, ha, h⟩
  · exact .inl h
  · refine .inr ⟨b, off, ha, fun j hj => ?_⟩
    obtain ⟨u, h1, h2⟩ := h j hj
    exact ⟨u, kept hb h1, h2.below hb⟩
theorem Re.rs {w : World} {v : Value} {xss : List (List Int)} (h : Re w v xss) : Rs w v xss := by
  obtain ⟨a, c, rfl, _, _, h⟩ := h
  refine ⟨a, c, rfl, ?_⟩
  rcases h with h | ⟨b, off, ha, h⟩
  · exact .inl h
  · refine .inr ⟨b, off, ha, fun j hj => ?_⟩
    obtain ⟨u, h1, h2⟩ := h j hj
    exact ⟨u, h1, h2.sl⟩
theorem Rs.get {w : World} {b off : Nat} {xss : List (List Int)} (h : ∀ j (h : j < xss.length), ∃ u, w.cell? ⟨b, off + j, none⟩ = some u ∧ Sl w u xss[j]) {m : Nat} (hm : m < xss.length) :
    ∃ a c xs, xs ∈ xss ∧ w.cell? ⟨b, off + m, none⟩ = some (.slice a xs.length c) ∧ Sl w (.slice a xs.length c) xs ∧ xss.take (m + 1) = xss.take m ++ [xs] ∧ xss.drop m = xs :: xss.drop (m + 1) := by
  obtain ⟨u, h1, a, c, rfl, h2⟩ := h m hm
  exact ⟨a, c, xss[m], List.getElem_mem hm, h1, ⟨a, c, rfl, h2⟩, List.take_succ_eq_append_getElem hm, List.drop_eq_getElem_cons hm⟩
/-- A hermitian matrix that came in. -/
def Hr (w : World) (v : Value) (X : Her) : Prop := ∃ d u, v = .agg #[d, u] ∧ Sl w d X.dg ∧ Rs w u X.up
theorem Hr.below {w w' : World} {v : Value} {X : Her} (h : Hr w v X) (hb : Below w.heap.size w w') : Hr w' v X := by
  obtain ⟨d, u, rfl, h1, h2⟩ := h
  exact ⟨d, u, rfl, h1.below hb, h2.below hb⟩
theorem Hv.hr {w : World} {v : Value} {X : Her} (h : Hv w v X) : Hr w v X := by
  obtain ⟨d, u, rfl, h1, h2⟩ := h
  exact ⟨d, u, rfl, h1.sl, h2.rs⟩
structure Hbig (X : Her) : Prop where
  h1 : X.dg.length ≤ 9223372036854775807
  h2 : X.up.length ≤ 9223372036854775807
  h3 : ∀ xs ∈ X.up, xs.length ≤ 9223372036854775807
/-! ### Sizes -/
def szGo (left : Int) : List (List Int) → Int
  | [] => left
  | x :: xs => if left - x.length < 0 then -1 else szGo (left - x.length) xs
theorem szGo_cons {left : Int} {x : List Int} {xs : List (List Int)} : szGo left (x :: xs) = if left - x.length < 0 then -1 else szGo (left - x.length) xs := rfl
def szR (left : Int) (xss : List (List Int)) : Int := if left - xss.length < 0 then -1 else szGo (left - xss.length) xss
def szH (left : Int) (X : Her) : Int := if left - X.dg.length < 0 then -1 else szR (left - X.dg.length) X.up
theorem szGo_bd : ∀ {xss : List (List Int)} {left : Int}, 0 ≤ left → left ≤ 1048576 → -1 ≤ szGo left xss ∧ szGo left xss ≤ 1048576
  | [], left, h0, h1 => by unfold szGo; omega
  | x :: xs, left, h0, h1 => by
    unfold szGo
    split
    · omega
    · exact szGo_bd (by omega) (by omega)
theorem szGo_pos : ∀ {xss : List (List Int)} {left : Int}, 0 ≤ left → left ≤ 1048576 → ¬ szGo left xss < 0 → ∀ xs ∈ xss, xs.length ≤ 1048576
  | [], _, _, _, _, xs, hx => by simp at hx
  | x :: l, left, h0, h1, h, xs, hx => by
    unfold szGo at h
    split at h
    · exact absurd (by decide) h
    · rename_i h2
      rcases List.mem_cons.1 hx with rfl | hx
      · omega
      · exact szGo_pos (by omega) (by omega) h xs hx
theorem szR_bd {xss : List (List Int)} {left : Int} (h0 : 0 ≤ left) (h1 : left ≤ 1048576) : -1 ≤ szR left xss ∧ szR left xss ≤ 1048576 := by
  unfold szR
  split
  · omega
  · exact szGo_bd (by omega) (by omega)
theorem szH_bd {X : Her} {left : Int} (h0 : 0 ≤ left) (h1 : left ≤ 1048576) : -1 ≤ szH left X ∧ szH left X ≤ 1048576 := by
  unfold szH
  split
  · omega
  · exact szR_bd (by omega) (by omega)
theorem szH_pos {X : Her} {left : Int} (h0 : 0 ≤ left) (h1 : left ≤ 1048576) (h : ¬ szH left X < 0) : Hsz X := by
  unfold szH szR at h
  split at h
  · exact absurd (by decide) h
  · split at h
    · exact absurd (by decide) h
    · exact ⟨by omega, by omega, szGo_pos (by omega) (by omega) h⟩
theorem szI_pos {n : Nat} {left : Int} (h1 : left ≤ 1048576) (h : ¬ szI left n < 0) : n ≤ 1048576 := by unfold szI at h; split at h <;> omega
/-! ### Copies -/
theorem infoN : (Try.prog.info? 24).map (fun i => (i.zero, i.size, i.bytes)) = some (some (.slice none 0 0), 1, 24) := infoR
theorem FrI.other {w : World} {B : Nat} {v : Value} {xs : List Int} (h : FrI w B v xs) {p : Addr} (hp : v.ownBlock ≠ some p.block) (u : Value) : FrI (w.setCell p u) B v xs := by
  obtain ⟨g, cap, rfl, h⟩ := h
  exact ⟨g, cap, rfl, h.other (fun e => hp (by rw [← e]; rfl)) u⟩
theorem FrR.other {w : World} {B : Nat} {v : Value} {us : List Value} {xss : List (List Int)} (h : FrR w B v us xss) {p : Addr} (hp : v.ownBlock ≠ some p.block) (hq : ∀ z ∈ us, z.ownBlock ≠ some p.block) (u : Value) : FrR (w.setCell p u) B v us xss := by
  obtain ⟨g0, cap0, e0, hB, hs, _⟩ := h.lt
  obtain ⟨g, cap, rfl, h1, h2, h3, h4⟩ := h
  cases e0
  exact ⟨g0, cap0, rfl, ownsRow_of h1 (Below.heap_setCell _ _ _ _ (fun e => hp (by rw [← e]; rfl))) hB, h2, fun j a b => (h3 j a b).other (hq _ (List.getElem_mem a)) u, h4⟩
theorem FrR.blks {w : World} {B : Nat} {v : Value} {us : List Value} {xss : List (List Int)} (h : FrR w B v us xss) : ∀ z ∈ us, ∃ g, z.ownBlock = some g ∧ B ≤ g ∧ g < w.heap.size := fun z hz => by
  obtain ⟨g, cap, _, _, h2, h3, h4⟩ := h
  exact RowsA.mem ⟨h2, h3, h4⟩ hz
end Go.Proofs.Ytacfanjejaellaa
/-
  Marks on rows of rows and on matrices, and what a mark leaves as it was.
-/
namespace Go.Proofs.Ytacfanjejaellaa
open Go.RowKit

/-- Blocks from lo to hi may have changed, no others. -/
structure Chg (lo hi : Nat) (w w' : World) : Prop where
  os : w'.os = w.os
  tape : w'.tape = w.tape
  output : w'.output = w.output
  size : w.heap.size ≤ w'.heap.size
  block : ∀ k, k < w.heap.size → (k < lo ∨ hi ≤ k) → w'.heap[k]? = w.heap[k]?
section
variable {lo hi lo' hi' B : Nat} {a w w' w2 : World} {v : Value} {xs : List Int}
theorem Chg.refl : Chg lo hi w w := ⟨rfl, rfl, rfl, Nat.le_refl _, fun _ _ _ => rfl⟩
theorem Chg.trans (h : Chg lo hi w w') (k : Chg lo hi w' w2) : Chg lo hi w w2 :=
  ⟨k.os.trans h.os, k.tape.trans h.tape, k.output.trans h.output, Nat.le_trans h.size k.size, fun j hj hr => (k.block j (Nat.lt_of_lt_of_le hj h.size) hr).trans (h.block j hj hr)⟩
theorem Chg.wide (h : Chg lo hi w w') (h1 : lo' ≤ lo) (h2 : hi ≤ hi') : Chg lo' hi' w w' := ⟨h.os, h.tape, h.output, h.size, fun k hk hr => h.block k hk (by omega)⟩
theorem Chg.below (h : Below w.heap.size w w') : Chg lo hi w w' := ⟨h.os, h.tape, h.output, h.size, fun k hk _ => h.block k hk⟩
theorem Chg.grown {row : Option Nat} (hg : w.grownBy w' row) (hr : ∀ g, row = some g → lo ≤ g ∧ g < hi) : Chg lo hi w w' :=
  ⟨hg.os, hg.tape, hg.output, hg.size, fun k hk h => hg.block k hk (fun e => by have := hr k e.symm; omega)⟩
theorem Chg.blw (h : Chg lo hi w w') (hb : Below a.heap.size a w) (hl : a.heap.size ≤ lo) : Below a.heap.size a w' :=
  ⟨h.os.trans hb.os, h.tape.trans hb.tape, h.output.trans hb.output, Nat.le_trans hb.size h.size, fun k hk => (h.block k (Nat.lt_of_lt_of_le hk hb.size) (.inl (by omega))).trans (hb.block k hk)⟩
theorem Chg.cell (h : Chg lo hi w w') {b o : Nat} (hc : w.cell? ⟨b, o, none⟩ = some v) (hr : b < lo ∨ hi ≤ b) : w'.cell? ⟨b, o, none⟩ = some v := by
  rw [World.cell?_of_block (w := w) (h.block b (World.block_lt_of_cell? w _ hc) hr)]; exact hc
theorem ownsRow_chg {E : TypeId} {n : Nat} {zs : List Value} (h : Chg lo hi w w') (ho : w.ownsRow B E 1 v n zs) (hr : ∀ g, v.ownBlock = some g → g < lo ∨ hi ≤ g) : w'.ownsRow B E 1 v n zs := by
  refine ⟨ho.1, ?_⟩
  rcases ho.2 with h2 | ⟨g', cap', cur, rfl, h3, hh, h4⟩
  · exact .inl h2
  · exact .inr ⟨g', cap', cur, rfl, h3, by rw [h.block g' (Array.getElem?_eq_some_iff.1 hh).1 (hr g' rfl)]; exact hh, h4⟩
theorem OwnI.chg {g n cap : Nat} (h : Chg lo hi w w') (ho : OwnI w B g n cap xs) (hr : g < lo ∨ hi ≤ g) : OwnI w' B g n cap xs :=
  ownsRow_chg h ho (fun j hj => by have e : g = j := Option.some.inj hj; omega)
theorem FrI.chg (h : Chg lo hi w w') (ho : FrI w B v xs) (hr : hi ≤ B) : FrI w' B v xs := by
  obtain ⟨g, cap, rfl, ho⟩ := ho
  exact ⟨g, cap, rfl, OwnI.chg h ho (by have := ho.lt.1; omega)⟩
theorem OwI.chg (h : Chg lo hi w w') (ho : OwI w B v xs) (hr : ∀ g, v.ownBlock = some g → g < lo ∨ hi ≤ g) : OwI w' B v xs := by
  rcases ho with ho | ⟨g, cap, cap', rfl, ho⟩
  · exact .inl ho
  · exact .inr ⟨g, cap, cap', rfl, OwnI.chg h ho (hr g rfl)⟩
theorem FrR.chg {us : List Value} {xss : List (List Int)} (h : Chg lo hi w w') (ho : FrR w B v us xss) (hr : hi ≤ B) : FrR w' B v us xss := by
  obtain ⟨g0, cap0, e0, hB0, _⟩ := ho.lt
  obtain ⟨g, cap, rfl, h1, h2, h3, h4⟩ := ho
  cases e0
  exact ⟨g0, cap0, rfl, ownsRow_chg h h1 (fun j hj => by have e : g0 = j := Option.some.inj hj; omega), h2, fun j a b => (h3 j a b).chg h hr, h4⟩
theorem FrH.chg {X : Her} (h : Chg lo hi w w') (ho : FrH w B v X) (hr : hi ≤ B) : FrH w' B v X := by
  obtain ⟨d, u, us, rfl, h1, h2, h3⟩ := ho
  exact ⟨d, u, us, rfl, h1.chg h hr, h2.chg h hr, h3⟩
theorem OwH.chg {X : Her} (h : Chg lo hi w w') (ho : OwH w B v X) (hr : hi ≤ B) : OwH w' B v X := by
  rcases ho with ho | ho
  · exact .inl ho
  · exact .inr (ho.chg h hr)
end
/-! ### Marked rows -/
def sumL : List (List Int) → Nat
  | [] => 0
  | x :: xs => x.length + sumL xs
def cntR (k : Int) : List (List Int) → List (List Int)
  | [] => []
  | x :: xs => cnt k x.length :: cntR (k + x.length) xs
theorem cntR_len {k : Int} {xss : List (List Int)} : (cntR k xss).length = xss.length := by
  induction xss generalizing k with
  | nil => rfl
  | cons x xs ih => simp [cntR, ih]
theorem sumL_snoc {xss : List (List Int)} {x : List Int} : sumL (xss ++ [x]) = sumL xss + x.length := by
  induction xss with
  | nil => simp [sumL]
  | cons y ys ih => simp [sumL, ih]; omega
theorem cntR_snoc {k : Int} {xss : List (List Int)} {x : List Int} : cntR k (xss ++ [x]) = cntR k xss ++ [cnt (k + sumL xss) x.length] := by
  induction xss generalizing k with
  | nil => simp [cntR, sumL]
  | cons y ys ih =>
    simp only [List.cons_append, cntR, ih, sumL]
    rw [show k + (y.length : Int) + (sumL ys : Int) = k + ((y.length + sumL ys : Nat) : Int) by omega]
theorem sumL_take {xss : List (List Int)} {m : Nat} : sumL (xss.take m) ≤ sumL xss := by
  induction xss generalizing m with
  | nil => simp [sumL]
  | cons y ys ih => cases m <;> simp [sumL, ih]
/-- Rows in blocks of their own between lo and hi, or nil. -/
structure RowsI (w : World) (lo hi : Nat) (us : List Value) (xss : List (List Int)) : Prop where
  len : us.length = xss.length
  rows : ∀ j (h : j < us.length) (h' : j < xss.length), OwI w lo us[j] xss[j]
  hib : ∀ z ∈ us, ∀ g, z.ownBlock = some g → g < hi
  pw : us.Pairwise fun a b => ∀ g, a.ownBlock = some g → b.ownBlock ≠ some g
theorem RowsI.mark {w w' : World} {lo hi : Nat} {us : List Value} {xss : List (List Int)} (h : RowsI w lo hi us xss) {m : Nat} (hm : m < us.length) {ys : List Int} (hy : OwI w' lo us[m] ys) (hg : w.grownBy w' us[m].ownBlock) : RowsI w' lo hi us (xss.set m ys) := by
  refine ⟨by simp [h.len], fun j h1 h2 => ?_, h.hib, h.pw⟩
  have hl := h.len
  by_cases e : j = m
  · subst e; simpa using hy
  · have hk := h.rows j h1 (by omega)
    rw [List.getElem_set_ne (by omega)]
    rcases hk with hk | ⟨g, cap, cap', e1, hk⟩
    · exact .inl hk
    · refine .inr ⟨g, cap, cap', e1, hk.grown hg (fun e2 => ?_)⟩
      have e3 : us[j].ownBlock = some g := by rw [e1]; rfl
      rcases Nat.lt_or_gt_of_ne e with h3 | h3
      · exact List.pairwise_iff_getElem.1 h.pw j m h1 hm h3 g e3 e2.symm
      · exact List.pairwise_iff_getElem.1 h.pw m j hm h1 h3 g e2.symm e3
theorem mark_step {k : Int} {xss : List (List Int)} {m : Nat} (hm : m < xss.length) : (cntR k (xss.take m) ++ xss.drop m).set m (cnt (k + sumL (xss.take m)) xss[m].length) = cntR k (xss.take (m + 1)) ++ xss.drop (m + 1) ∧ sumL (xss.take (m + 1)) = sumL (xss.take m) + xss[m].length := by
  have hl : (cntR k (xss.take m)).length = m := by rw [cntR_len, List.length_take]; omega
  refine ⟨?_, ?_⟩
  · rw [List.set_append_right _ _ (by omega), hl, Nat.sub_self, List.drop_eq_getElem_cons hm, List.set_cons_zero, List.take_succ_eq_append_getElem hm, cntR_snoc]
    simp
  · rw [List.take_succ_eq_append_getElem hm, sumL_snoc]
end Go.Proofs.Ytacfanjejaellaa
