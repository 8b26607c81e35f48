/-
  The laws' helpers over doublings and hermitian matrices: sizes, copies, comparison.
-/
import Derived.Test.YtapklfdojbicpaaHcB
import Derived.Test.YtapklfdojbicpaaTree
import Derived.Deep.DeepCutAuto
namespace Go.Proofs.Ytapklfdojbicpaa
open Go.RowKit

/-- Rows of rows that came in. -/
def Rs (w : World) (v : Value) (xss : List (List Int)) : Prop :=
  ∃ a c, v = .slice a xss.length c ∧ (xss = [] ∨ ∃ b off, a = some ⟨b, off, none⟩ ∧ ∀ j (h : j < xss.length), ∃ u, w.cell? ⟨b, off + j, none⟩ = some u ∧ Sl w u xss[j])
theorem Rs.below {w w' : World} {v : Value} {xss : List (List Int)} (h : Rs w v xss) (hb : Below w.heap.size w w') : Rs w' v xss := by
  obtain ⟨a, c, rfl, h⟩ := h
  refine ⟨a, c, rfl, ?_⟩
  rcases h with h | ⟨b, off, ha, h⟩
  · exact .inl h
  · refine .inr ⟨b, off, ha, fun j hj => ?_⟩
    obtain ⟨u, h1, h2⟩ := h j hj
    exact ⟨u, kept hb h1, h2.below hb⟩
theorem Re.rs {w : World} {v : Value} {xss : List (List Int)} (h : Re w v xss) : Rs w v xss := by
  obtain ⟨a, c, rfl, _, _, h⟩ := h
  refine ⟨a, c, rfl, ?_⟩
  rcases h with h | ⟨b, off, ha, h⟩
  · exact .inl h
  · refine .inr ⟨b, off, ha, fun j hj => ?_⟩
    obtain ⟨u, h1, h2⟩ := h j hj
    exact ⟨u, h1, h2.sl⟩
theorem Rs.get {w : World} {b off : Nat} {xss : List (List Int)} (h : ∀ j (h : j < xss.length), ∃ u, w.cell? ⟨b, off + j, none⟩ = some u ∧ Sl w u xss[j]) {m : Nat} (hm : m < xss.length) :
    ∃ a c xs, xs ∈ xss ∧ w.cell? ⟨b, off + m, none⟩ = some (.slice a xs.length c) ∧ Sl w (.slice a xs.length c) xs ∧ xss.take (m + 1) = xss.take m ++ [xs] ∧ xss.drop m = xs :: xss.drop (m + 1) := by
  obtain ⟨u, h1, a, c, rfl, h2⟩ := h m hm
  exact ⟨a, c, xss[m], List.getElem_mem hm, h1, ⟨a, c, rfl, h2⟩, List.take_succ_eq_append_getElem hm, List.drop_eq_getElem_cons hm⟩
/-- A hermitian matrix that came in. -/
def Hr (w : World) (v : Value) (X : Her) : Prop := ∃ d u, v = .agg #[d, u] ∧ Sl w d X.dg ∧ Rs w u X.up
theorem Hr.below {w w' : World} {v : Value} {X : Her} (h : Hr w v X) (hb : Below w.heap.size w w') : Hr w' v X := by
  obtain ⟨d, u, rfl, h1, h2⟩ := h
  exact ⟨d, u, rfl, h1.below hb, h2.below hb⟩
theorem Hv.hr {w : World} {v : Value} {X : Her} (h : Hv w v X) : Hr w v X := by
  obtain ⟨d, u, rfl, h1, h2⟩ := h
  exact ⟨d, u, rfl, h1.sl, h2.rs⟩
structure Hbig (X : Her) : Prop where
  h1 : X.dg.length ≤ 9223372036854775807
  h2 : X.up.length ≤ 9223372036854775807
  h3 : ∀ xs ∈ X.up, xs.length ≤ 9223372036854775807
/-! ### Sizes -/
def szGo (left : Int) : List (List Int) → Int
  | [] => left
  | x :: xs => if left - x.length < 0 then -1 else szGo (left - x.length) xs
theorem szGo_cons {left : Int} {x : List Int} {xs : List (List Int)} : szGo left (x :: xs) = if left - x.length < 0 then -1 else szGo (left - x.length) xs := rfl
def szR (left : Int) (xss : List (List Int)) : Int := if left - xss.length < 0 then -1 else szGo (left - xss.length) xss
def szH (left : Int) (X : Her) : Int := if left - X.dg.length < 0 then -1 else szR (left - X.dg.length) X.up
theorem szGo_bd : ∀ {xss : List (List Int)} {left : Int}, 0 ≤ left → left ≤ 1048576 → -1 ≤ szGo left xss ∧ szGo left xss ≤ 1048576
  | [], left, h0, h1 => by unfold szGo; omega
  | x :: xs, left, h0, h1 => by
    unfold szGo
    split
    · omega
    · exact szGo_bd (by omega) (by omega)
theorem szGo_pos : ∀ {xss : List (List Int)} {left : Int}, 0 ≤ left → left ≤ 1048576 → ¬ szGo left xss < 0 → ∀ xs ∈ xss, xs.length ≤ 1048576
  | [], _, _, _, _, xs, hx => by simp at hx
  | x :: l, left, h0, h1, h, xs, hx => by
    unfold szGo at h
    split at h
    · exact absurd (by decide) h
    · rename_i h2
      rcases List.mem_cons.1 hx with rfl | hx
      · omega
      · exact szGo_pos (by omega) (by omega) h xs hx
theorem szR_bd {xss : List (List Int)} {left : Int} (h0 : 0 ≤ left) (h1 : left ≤ 1048576) : -1 ≤ szR left xss ∧ szR left xss ≤ 1048576 := by
  unfold szR
  split
  · omega
  · exact szGo_bd (by omega) (by omega)
theorem szH_bd {X : Her} {left : Int} (h0 : 0 ≤ left) (h1 : left ≤ 1048576) : -1 ≤ szH left X ∧ szH left X ≤ 1048576 := by
  unfold szH
  split
  · omega
  · exact szR_bd (by omega) (by omega)
theorem szH_pos {X : Her} {left : Int} (h0 : 0 ≤ left) (h1 : left ≤ 1048576) (h : ¬ szH left X < 0) : Hsz X := by
  unfold szH szR at h
  split at h
  · exact absurd (by decide) h
  · split at h
    · exact absurd (by decide) h
    · exact ⟨by omega, by omega, szGo_pos (by omega) (by omega) h⟩
theorem szI_pos {n : Nat} {left : Int} (h1 : left ≤ 1048576) (h : ¬ szI left n < 0) : n ≤ 1048576 := by unfold szI at h; split at h <;> omega
/-! ### Copies -/
theorem infoN : (Try.prog.info? 24).map (fun i => (i.zero, i.size, i.bytes)) = some (some (.slice none 0 0), 1, 24) := infoR
theorem FrI.other {w : World} {B : Nat} {v : Value} {xs : List Int} (h : FrI w B v xs) {p : Addr} (hp : v.ownBlock ≠ some p.block) (u : Value) : FrI (w.setCell p u) B v xs := by
  obtain ⟨g, cap, rfl, h⟩ := h
  exact ⟨g, cap, rfl, h.other (fun e => hp (by rw [← e]; rfl)) u⟩
theorem FrR.other {w : World} {B : Nat} {v : Value} {us : List Value} {xss : List (List Int)} (h : FrR w B v us xss) {p : Addr} (hp : v.ownBlock ≠ some p.block) (hq : ∀ z ∈ us, z.ownBlock ≠ some p.block) (u : Value) : FrR (w.setCell p u) B v us xss := by
  obtain ⟨g0, cap0, e0, hB, hs, _⟩ := h.lt
  obtain ⟨g, cap, rfl, h1, h2, h3, h4⟩ := h
  cases e0
  exact ⟨g0, cap0, rfl, ownsRow_of h1 (Below.heap_setCell _ _ _ _ (fun e => hp (by rw [← e]; rfl))) hB, h2, fun j a b => (h3 j a b).other (hq _ (List.getElem_mem a)) u, h4⟩
theorem FrR.blks {w : World} {B : Nat} {v : Value} {us : List Value} {xss : List (List Int)} (h : FrR w B v us xss) : ∀ z ∈ us, ∃ g, z.ownBlock = some g ∧ B ≤ g ∧ g < w.heap.size := fun z hz => by
  obtain ⟨g, cap, _, _, h2, h3, h4⟩ := h
  exact RowsA.mem ⟨h2, h3, h4⟩ hz
end Go.Proofs.Ytapklfdojbicpaa
