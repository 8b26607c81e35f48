/- Texts joined for a claim: TrD, TrE. -/
import Derived.Test.YtmplpoccalccoaaJbf
import Derived.Test.YtmplpoccalccoaaFlowP
import Derived.Test.YtmplpoccalccoaaTrB
import Derived.Test.YtmplpoccalccoaaJay
import Derived.Test.YtmplpoccalccoaaDbN
/-
  The program's determinant: the walk.
-/
namespace Go.Proofs.Ytmplpoccalccoaa
open Go.RowKit

section
variable {A B O : List (List Int)} {R : List Int} {p : Int} {k t m i : Nat}
end
end Go.Proofs.Ytmplpoccalccoaa
/-
  Automorphisms: the program's test and the reference's, walked.
-/
namespace Go.Proofs.Ytmplpoccalccoaa
open Go.RowKit

theorem all_succ {n : Nat} {f : Nat → Bool} : (List.range (n + 1)).all f = ((List.range n).all f && f n) := by
  rw [List.range_succ, List.all_append]; simp
theorem all2_no {n i k : Nat} {g : Nat → Nat → Bool} (hi : i < n) (hk : k < n) (h : g i k = false) : ((List.range n).all fun i => (List.range n).all (g i)) = false :=
  List.all_eq_false.2 ⟨i, List.mem_range.2 hi, by rw [List.all_eq_false.2 ⟨k, List.mem_range.2 hk, by rw [h]; decide⟩]; decide⟩
/-- The rows of the unit matrix. -/
def Un (w : World) (g n : Nat) : Prop := ∀ j, j < n → ∃ a c, w.cell? ⟨g, j, none⟩ = some (.slice a n c) ∧ El w (.slice a n c) (oneL n j)
/-- A table of numbers. -/
def Tb (w : World) (b off n : Nat) (F : Nat → Nat → Int) : Prop := ∀ i, i < n → ∃ b2 o2 c, w.cell? ⟨b, off + i, none⟩ = some (.slice (some ⟨b2, o2, none⟩) n c) ∧ ∀ k, k < n → w.cell? ⟨b2, o2 + k, none⟩ = some (.int .i64 (F i k))
section
variable {w w' : World} {g n b off : Nat} {F : Nat → Nat → Int}
theorem Un.below (h : Un w g n) (hb : Below w.heap.size w w') : Un w' g n := fun j hj => by
  obtain ⟨a, c, h1, h2⟩ := h j hj
  exact ⟨a, c, kept hb h1, h2.below hb⟩
theorem Tb.below (h : Tb w b off n F) (hb : Below w.heap.size w w') : Tb w' b off n F := fun i hi => by
  obtain ⟨b2, o2, c, h1, h2⟩ := h i hi
  exact ⟨b2, o2, c, kept hb h1, fun k hk => kept hb (h2 k hk)⟩
theorem Tb.congr {G : Nat → Nat → Int} (h : Tb w b off n F) (e : ∀ i, i < n → ∀ k, k < n → F i k = G i k) : Tb w b off n G := fun i hi => by
  obtain ⟨b2, o2, c, h1, h2⟩ := h i hi
  exact ⟨b2, o2, c, h1, fun k hk => by rw [← e i hi k hk]; exact h2 k hk⟩
theorem Re.tb {v : Value} {L : List (List Int)} (h : Re w v L) (hl : L.length = n) (h0 : 0 < n) (hL : ∀ r ∈ L, r.length = n) : ∃ b off c, v = .slice (some ⟨b, off, none⟩) n c ∧ Tb w b off n fun i k => (L.getD i []).getD k 0 := by
  obtain ⟨a, c, rfl, _, _, h3⟩ := h
  obtain ⟨b, off, rfl, h4⟩ := h3.resolve_left (fun e => by rw [e] at hl; simp at hl; omega)
  refine ⟨b, off, c, by rw [hl], fun i hi => ?_⟩
  obtain ⟨u, h1, h2⟩ := h4 i (by omega)
  obtain ⟨a2, c2, rfl, _⟩ := id h2.op
  have hr := hL L[i] (List.getElem_mem _)
  have hg : L.getD i [] = L[i] := by rw [List.getD_eq_getElem?_getD, List.getElem?_eq_getElem (by omega)]; rfl
  obtain ⟨b2, o2, rfl, _⟩ := Sl.cellat h2.sl (i := 0) (by omega)
  refine ⟨b2, o2, c2, by rw [hr] at h1; exact h1, fun k hk => ?_⟩
  obtain ⟨b3, o3, e, hc⟩ := Sl.cellat h2.sl (i := k) (by omega)
  cases e
  show w.cell? ⟨b2, o2 + k, none⟩ = some (Value.int .i64 ((L.getD i []).getD k 0))
  rw [hg]
  exact hc
end
theorem bas_get {p : Int} {st : List Int} {i k : Nat} (hi : i < sz st.length) (hk : k < sz st.length) : ((basL p st).getD i []).getD k 0 = basF p st i k := by
  unfold basL
  simp [List.getD_eq_getElem?_getD, hi, hk]
end Go.Proofs.Ytmplpoccalccoaa
