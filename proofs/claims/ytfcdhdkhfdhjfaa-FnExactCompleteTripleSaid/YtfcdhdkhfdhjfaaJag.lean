/- Texts joined for a claim: Space, Mem, Her. -/
import Derived.Test.YtfcdhdkhfdhjfaaLaw
import Derived.Test.YtfcdhdkhfdhjfaaDbl
/-
  Spaces: a prime and a row of squares, as a value of two parts; the laws' helpers over them, and the program's small questions.
-/
namespace Go.Proofs.Ytfcdhdkhfdhjfaa
open Go.RowKit

theorem kept {W w1 : World} (hb : Below W.heap.size W w1) {b o : Nat} {v : Value} (h : W.cell? ⟨b, o, none⟩ = some v) : w1.cell? ⟨b, o, none⟩ = some v := by
  rw [hb.cell (p := ⟨b, o, none⟩) (World.block_lt_of_cell? W _ h)]; exact h
theorem keptF {W w1 : World} (hb : Below W.heap.size W w1) {b o : Nat} (hlt : b < W.heap.size) (h : W.frozen? ⟨b, o, none⟩ = false) : w1.frozen? ⟨b, o, none⟩ = false := by
  rw [hb.frozen (p := ⟨b, o, none⟩) hlt]; exact h
theorem OwnI.other {w : World} {B g n cap : Nat} {xs : List Int} (h : OwnI w B g n cap xs) {p : Addr} (hp : g ≠ p.block) (u : Value) : OwnI (w.setCell p u) B g n cap xs := by
  obtain ⟨cur, hh, hc, ht⟩ := h.row
  exact OwnI.mk_ h.lt.1 (by rw [← hh]; exact Below.heap_setCell _ _ _ _ hp) hc ht h.caps.1 h.caps.2
theorem szI_bd {left : Int} {n : Nat} (h0 : 0 ≤ left) (h1 : left ≤ 1048576) : -1 ≤ szI left n ∧ szI left n ≤ 1048576 := by unfold szI; split <;> omega
theorem szI_neg {left : Int} {n : Nat} (h : szI left n < 0) : szI left n = -1 := by unfold szI at h ⊢; split <;> simp_all
theorem sprime_c {p : Int} {w : World} : Calls Try.prog 83 #[.int .i64 p] w fun e w' => e = .returned (.bool (prB p)) ∧ w = w' := by
  by_cases h3 : p = 3
  · subst h3; go_enter Try.func83, Try.ntmps83; go_wp2; go_ret; exact ⟨rfl, rfl⟩
  by_cases h5 : p = 5
  · subst h5; go_enter Try.func83, Try.ntmps83; go_wp2; go_ret; exact ⟨rfl, rfl⟩
  by_cases h7 : p = 7
  · subst h7; go_enter Try.func83, Try.ntmps83; go_wp2; go_ret; exact ⟨rfl, rfl⟩
  by_cases h11 : p = 11
  · subst h11; go_enter Try.func83, Try.ntmps83; go_wp2; go_ret; exact ⟨rfl, rfl⟩
  by_cases h13 : p = 13
  · subst h13; go_enter Try.func83, Try.ntmps83; go_wp2; go_ret; exact ⟨rfl, rfl⟩
  have e : prB p = false := by simp [prB, IsP, *]
  have E := Lib.hid e; clear e
  have g3 : (p == 3) = false := by simpa using h3
  have g5 : (p == 5) = false := by simpa using h5
  have g7 : (p == 7) = false := by simpa using h7
  have g11 : (p == 11) = false := by simpa using h11
  have g13 : (p == 13) = false := by simpa using h13
  go_enter Try.func83, Try.ntmps83; go_wp2; go_ret; exact ⟨by rw [E.out]; rfl, rfl⟩
theorem sin_c {n l h : Int} {w : World} :
    Calls Try.prog 84 #[.int .i64 n, .int .i64 l, .int .i64 h] w fun e w' => e = .returned (.bool (inR n l h)) ∧ w = w' := by
  by_cases h1 : l ≤ n
  · go_enter Try.func84, Try.ntmps84
    go_wp2
    go_ret
    exact ⟨by simp [inR, *], rfl⟩
  · go_enter Try.func84, Try.ntmps84
    go_wp2
    go_ret
    exact ⟨by simp [inR]; omega, rfl⟩
theorem prB_iff {p : Int} : prB p = true ↔ IsP p := by simp [prB]
end Go.Proofs.Ytfcdhdkhfdhjfaa
/-
  Plain predicates on memory: slices with their capacities, rows of rows, hermitian matrices; what a call made of these.
-/
namespace Go.Proofs.Ytfcdhdkhfdhjfaa
open Go.RowKit

/-! ### Slices with their capacities -/
def El (w : World) (v : Value) (xs : List Int) : Prop := Sl w v xs ∧ Cp v
section
variable {w w' : World} {B g n cap : Nat} {v : Value} {xs : List Int}
theorem El.sl (h : El w v xs) : Sl w v xs := h.1
theorem El.below (h : El w v xs) (hb : Below w.heap.size w w') : El w' v xs := ⟨h.1.below hb, h.2⟩
theorem FrI.el (h : FrI w B v xs) : El w v xs := ⟨h.sl, h.cp⟩
theorem OwnI.el (h : OwnI w B g n cap xs) : El w (.slice (some ⟨g, 0, none⟩) n cap) xs := ⟨h.sl, h.cp⟩
theorem El.nil (w : World) : El w (.slice none 0 0) [] := ⟨Sl.nil w, none, 0, 0, rfl, Nat.le_refl _, by decide⟩
theorem El.op (h : El w v xs) : ∃ a c, v = .slice a xs.length c ∧ xs.length ≤ c ∧ c ≤ 9223372036854775807 ∧ (xs = [] ∨ ∃ b off, a = some ⟨b, off, none⟩ ∧ At w b off xs) := by
  obtain ⟨⟨a, c, rfl, h⟩, a2, n2, c2, e, h1, h2⟩ := h
  cases e
  exact ⟨a, c, rfl, h1, h2, h⟩
theorem El.mk_ {a : Option Addr} {c : Nat} (h1 : xs.length ≤ c) (h2 : c ≤ 9223372036854775807) (h : xs = [] ∨ ∃ b off, a = some ⟨b, off, none⟩ ∧ At w b off xs) : El w (.slice a xs.length c) xs :=
  ⟨⟨a, c, rfl, h⟩, a, _, c, rfl, h1, h2⟩
theorem El.op1 (h : El w v xs) (hne : 0 < xs.length) : ∃ b off c, v = .slice (some ⟨b, off, none⟩) xs.length c ∧ xs.length ≤ c ∧ c ≤ 9223372036854775807 ∧ At w b off xs := by
  obtain ⟨a, c, rfl, h1, h2, rfl | ⟨b, off, rfl, h3⟩⟩ := h.op
  · simp at hne
  · exact ⟨b, off, c, rfl, h1, h2, h3⟩
theorem At.el {b off c : Nat} (h : At w b off xs) (h1 : xs.length ≤ c) (h2 : c ≤ 9223372036854775807) : El w (.slice (some ⟨b, off, none⟩) xs.length c) xs := El.mk_ h1 h2 (.inr ⟨b, off, rfl, h⟩)
theorem At.elT {b off c k : Nat} (h : At w b off xs) (hk : k ≤ xs.length) (h1 : k ≤ c) (h2 : c ≤ 9223372036854775807) : El w (.slice (some ⟨b, off, none⟩) k c) (xs.take k) := by
  have h3 := (h.take k).el (c := c) (by rw [List.length_take]; omega) h2
  rw [List.length_take, Nat.min_eq_left hk] at h3
  exact h3
theorem At.elD {b off c k n : Nat} (h : At w b off xs) (hk : xs.length - k = n) (h1 : n ≤ c) (h2 : c ≤ 9223372036854775807) : El w (.slice (some ⟨b, off + k, none⟩) n c) (xs.drop k) := by
  have h3 := (h.drop k).el (c := c) (by rw [List.length_drop]; omega) h2
  rw [List.length_drop, hk] at h3
  exact h3
end
/-! ### Rows of rows -/
def Re (w : World) (v : Value) (xss : List (List Int)) : Prop :=
  ∃ a c, v = .slice a xss.length c ∧ xss.length ≤ c ∧ c ≤ 9223372036854775807 ∧ (xss = [] ∨ ∃ b off, a = some ⟨b, off, none⟩ ∧ ∀ j (h : j < xss.length), ∃ u, w.cell? ⟨b, off + j, none⟩ = some u ∧ El w u xss[j])
theorem Re.below {w w' : World} {v : Value} {xss : List (List Int)} (h : Re w v xss) (hb : Below w.heap.size w w') : Re w' v xss := by
  obtain ⟨a, c, rfl, h1, h2, h⟩ := h
  refine ⟨a, c, rfl, h1, h2, ?_⟩
  rcases h with h | ⟨b, off, ha, h⟩
  · exact .inl h
  · refine .inr ⟨b, off, ha, fun j hj => ?_⟩
    obtain ⟨u, h3, h4⟩ := h j hj
    exact ⟨u, kept hb h3, h4.below hb⟩
theorem Re.nil (w : World) : Re w (.slice none 0 0) [] := ⟨none, 0, rfl, Nat.le_refl _, by decide, .inl rfl⟩
theorem Re.one {w : World} {v : Value} {xs : List Int} {b c : Nat} (h : El w v xs) (hc : w.cell? ⟨b, 0, none⟩ = some v) (h1 : 1 ≤ c) (h2 : c ≤ 9223372036854775807) : Re w (.slice (some ⟨b, 0, none⟩) 1 c) [xs] := by
  refine ⟨_, c, rfl, h1, h2, .inr ⟨b, 0, rfl, fun j hj => ?_⟩⟩
  obtain rfl : j = 0 := by simpa using hj
  exact ⟨v, hc, h⟩
theorem Re.two {w : World} {v u : Value} {xs ys : List Int} {b c : Nat} (h : El w v xs) (hc : w.cell? ⟨b, 0, none⟩ = some v) (h' : El w u ys) (hc' : w.cell? ⟨b, 1, none⟩ = some u) (h1 : 2 ≤ c) (h2 : c ≤ 9223372036854775807) : Re w (.slice (some ⟨b, 0, none⟩) 2 c) [xs, ys] := by
  refine ⟨_, c, rfl, h1, h2, .inr ⟨b, 0, rfl, fun j hj => ?_⟩⟩
  simp at hj
  rcases (show j = 0 ∨ j = 1 by omega) with rfl | rfl
  · exact ⟨v, hc, h⟩
  · exact ⟨u, hc', h'⟩
theorem Re.get {w : World} {b off : Nat} {xss : List (List Int)} (h : ∀ j (h : j < xss.length), ∃ u, w.cell? ⟨b, off + j, none⟩ = some u ∧ El w u xss[j]) {m : Nat} (hm : m < xss.length) :
    ∃ a c xs, xs ∈ xss ∧ w.cell? ⟨b, off + m, none⟩ = some (.slice a xs.length c) ∧ El w (.slice a xs.length c) xs ∧ xss.take (m + 1) = xss.take m ++ [xs] := by
  obtain ⟨u, h1, h2⟩ := h m hm
  obtain ⟨a, c, rfl, _⟩ := h2.op
  exact ⟨a, c, xss[m], List.getElem_mem hm, h1, h2, List.take_succ_eq_append_getElem hm⟩
/-! ### Hermitian matrices -/
structure Her where
  dg : List Int
  up : List (List Int)
def Hv (w : World) (v : Value) (X : Her) : Prop := ∃ d u, v = .agg #[d, u] ∧ El w d X.dg ∧ Re w u X.up
theorem Hv.below {w w' : World} {v : Value} {X : Her} (h : Hv w v X) (hb : Below w.heap.size w w') : Hv w' v X := by
  obtain ⟨d, u, rfl, h1, h2⟩ := h
  exact ⟨d, u, rfl, h1.below hb, h2.below hb⟩
/-! ### What a call made -/
def FrR (w : World) (B : Nat) (v : Value) (us : List Value) (xss : List (List Int)) : Prop :=
  ∃ g cap, v = .slice (some ⟨g, 0, none⟩) us.length cap ∧ w.ownsRow B 22 1 v us.length us ∧ us.length = xss.length ∧ (∀ j (h : j < us.length) (h' : j < xss.length), FrI w B us[j] xss[j]) ∧ us.Pairwise fun a b => a.ownBlock ≠ b.ownBlock
def FrH (w : World) (B : Nat) (v : Value) (X : Her) : Prop := ∃ d u us, v = .agg #[d, u] ∧ FrI w B d X.dg ∧ FrR w B u us X.up ∧ ∀ z ∈ us, z.ownBlock ≠ d.ownBlock
def OwH (w : World) (B : Nat) (v : Value) (X : Her) : Prop := (v = .agg #[.slice none 0 0, .slice none 0 0] ∧ X = ⟨[], []⟩) ∨ FrH w B v X
section
variable {w w' : World} {B B' : Nat} {v : Value} {us : List Value} {xss : List (List Int)} {X : Her}
theorem FrR.lt (h : FrR w B v us xss) : ∃ g cap, v = .slice (some ⟨g, 0, none⟩) us.length cap ∧ B ≤ g ∧ g < w.heap.size ∧ us.length ≤ cap ∧ cap ≤ maxLen := by
  obtain ⟨g, cap, rfl, h, hl, _⟩ := h
  have hlt := World.ownsRow.lt h g rfl
  rcases h.2 with h2 | ⟨g', cap', cur, hv, hg', hh, h3, h4, _⟩
  · cases h2.1
  · cases hv; exact ⟨g, cap, rfl, hlt.1, hlt.2, by omega, h4⟩
theorem ownsRow_of {w w' : World} {B' : Nat} {E : TypeId} {s g n m cap : Nat} {us : List Value} (h : w.ownsRow B E s (.slice (some ⟨g, 0, none⟩) m cap) n us) (hg : w'.heap[g]? = w.heap[g]?) (hB : B' ≤ g) : w'.ownsRow B' E s (.slice (some ⟨g, 0, none⟩) m cap) n us := by
  refine ⟨h.1, ?_⟩
  rcases h.2 with h2 | ⟨g', cap', cur, hv, hg', hh, h3, h4, h5, h6⟩
  · cases h2.1
  · cases hv
    exact .inr ⟨g, cap, cur, rfl, hB, by rw [hg]; exact hh, h3, h4, h5, h6⟩
theorem FrR.below (h : FrR w B v us xss) (hb : Below w.heap.size w w') : FrR w' B v us xss := by
  obtain ⟨g0, cap0, e0, hB, hs, _⟩ := h.lt
  obtain ⟨g, cap, rfl, h1, h2, h3, h4⟩ := h
  cases e0
  exact ⟨g0, cap0, rfl, ownsRow_of h1 (hb.block _ hs) hB, h2, fun j a b => (h3 j a b).below hb, h4⟩
theorem FrR.more (h : FrR w B v us xss) (hB : B' ≤ B) : FrR w B' v us xss := by
  obtain ⟨g0, cap0, e0, hB0, hs, _⟩ := h.lt
  obtain ⟨g, cap, rfl, h1, h2, h3, h4⟩ := h
  cases e0
  exact ⟨g0, cap0, rfl, ownsRow_of h1 rfl (by omega), h2, fun j a b => (h3 j a b).more hB, h4⟩
theorem FrR.re (h : FrR w B v us xss) : Re w v xss := by
  obtain ⟨g0, cap0, e0, hB0, hs, hc1, hc2⟩ := h.lt
  obtain ⟨g, cap, rfl, h1, h2, h3, h4⟩ := h
  cases e0
  simp only [maxLen] at hc2
  refine ⟨_, cap0, by rw [h2], by omega, by omega, .inr ⟨g0, 0, rfl, fun j hj => ⟨us[j]'(by omega), ?_, (h3 j (by omega) hj).el⟩⟩⟩
  have := World.ownsRow.cells h1 (g := g0) rfl j (us[j]'(by omega)) (by simp)
  rw [addz] at this
  rw [Nat.zero_add]; exact this
theorem FrH.below (h : FrH w B v X) (hb : Below w.heap.size w w') : FrH w' B v X := by
  obtain ⟨d, u, us, rfl, h1, h2, h3⟩ := h
  exact ⟨d, u, us, rfl, h1.below hb, h2.below hb, h3⟩
theorem FrH.more (h : FrH w B v X) (hB : B' ≤ B) : FrH w B' v X := by
  obtain ⟨d, u, us, rfl, h1, h2, h3⟩ := h
  exact ⟨d, u, us, rfl, h1.more hB, h2.more hB, h3⟩
theorem FrH.hv (h : FrH w B v X) : Hv w v X := by
  obtain ⟨d, u, us, rfl, h1, h2, h3⟩ := h
  exact ⟨d, u, rfl, h1.el, h2.re⟩
theorem OwH.hv (h : OwH w B v X) : Hv w v X := by
  rcases h with ⟨rfl, rfl⟩ | h
  · exact ⟨_, _, rfl, El.nil w, Re.nil w⟩
  · exact h.hv
theorem OwH.below (h : OwH w B v X) (hb : Below w.heap.size w w') : OwH w' B v X := by
  rcases h with h | h
  · exact .inl h
  · exact .inr (h.below hb)
theorem OwH.more (h : OwH w B v X) (hB : B' ≤ B) : OwH w B' v X := by
  rcases h with h | h
  · exact .inl h
  · exact .inr (h.more hB)
end
end Go.Proofs.Ytfcdhdkhfdhjfaa
/-
  Hermitian matrices as rows of numbers: the plain functions that the program and the reference compute. No program in sight.
-/
namespace Go.Proofs.Ytfcdhdkhfdhjfaa

def Her.d (X : Her) (i : Nat) : Int := X.dg.getD i 0
def Her.r (X : Her) (i : Nat) : List Int := X.up.getD i []
def oneL (n i : Nat) : List Int := (List.replicate n 0).set i 1
def chk3 (p : Int) (st : List Int) (xss : List (List Int)) : Int :=
  if isD p st = true then (if 3 < st.length then 3 else if xss.all (isE p (sz st.length)) = true then 0 else 2) else 1
end Go.Proofs.Ytfcdhdkhfdhjfaa
