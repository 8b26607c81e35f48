/-
  The laws' helpers over triples of matrices that are parameters: sizes, copies, comparison.
-/
import Derived.Test.YtmplpoccalccoaaJat
namespace Go.Proofs.Ytmplpoccalccoaa
open Go.RowKit

/-- A triple as it came in, and one that calls may take. -/
def Tri (w : World) (v : Value) (A B C : List (List Int)) : Prop := ∃ a b c, v = .agg #[a, b, c] ∧ Rs w a A ∧ Rs w b B ∧ Rs w c C
def Tv (w : World) (v : Value) (A B C : List (List Int)) : Prop := ∃ a b c, v = .agg #[a, b, c] ∧ Re w a A ∧ Re w b B ∧ Re w c C
structure Tsz (A B C : List (List Int)) : Prop where
  a : Msz A
  b : Msz B
  c : Msz C
section
variable {w w' : World} {v : Value} {A B C : List (List Int)}
theorem Tri.below (h : Tri w v A B C) (hb : Below w.heap.size w w') : Tri w' v A B C := by
  obtain ⟨a, b, c, rfl, h1, h2, h3⟩ := h
  exact ⟨a, b, c, rfl, h1.below hb, h2.below hb, h3.below hb⟩
theorem Tv.below (h : Tv w v A B C) (hb : Below w.heap.size w w') : Tv w' v A B C := by
  obtain ⟨a, b, c, rfl, h1, h2, h3⟩ := h
  exact ⟨a, b, c, rfl, h1.below hb, h2.below hb, h3.below hb⟩
theorem Tv.tr (h : Tv w v A B C) : Tri w v A B C := by
  obtain ⟨a, b, c, rfl, h1, h2, h3⟩ := h
  exact ⟨a, b, c, rfl, h1.rs, h2.rs, h3.rs⟩
end
/-- A block of three cells. -/
def Bt (w : World) (b : Nat) (x y z : Value) : Prop := w.heap[b]? = some (.cells #[x, y, z] 34 (0, 0))
section
variable {w w' : World} {b : Nat} {x y z : Value}
theorem Bt.lt (h : Bt w b x y z) : b < w.heap.size := (Array.getElem?_eq_some_iff.1 h).1
theorem Bt.c0 (h : Bt w b x y z) : w.cell? ⟨b, 0, none⟩ = some x := by
  unfold Bt at h; simp [World.cell?, h]
theorem Bt.c1 (h : Bt w b x y z) : w.cell? ⟨b, 1, none⟩ = some y := by
  unfold Bt at h; simp [World.cell?, h]
theorem Bt.c2 (h : Bt w b x y z) : w.cell? ⟨b, 2, none⟩ = some z := by
  unfold Bt at h; simp [World.cell?, h]
theorem Bt.f (h : Bt w b x y z) (i : Nat) : w.frozen? ⟨b, i, none⟩ = false := frozen_of_row _ _ _ _ _ h
theorem Bt.below (h : Bt w b x y z) (hb : Below w.heap.size w w') : Bt w' b x y z := by
  have hl := h.lt
  unfold Bt at h ⊢
  rw [hb.block b hl]; exact h
theorem Bt.set0 (h : Bt w b x y z) (v : Value) : Bt (w.setCell ⟨b, 0, none⟩ v) b v y z := heap_setCell_same _ _ _ _ _ _ h
theorem Bt.set1 (h : Bt w b x y z) (v : Value) : Bt (w.setCell ⟨b, 1, none⟩ v) b x v z := heap_setCell_same _ _ _ _ _ _ h
theorem Bt.set2 (h : Bt w b x y z) (v : Value) : Bt (w.setCell ⟨b, 2, none⟩ v) b x y v := heap_setCell_same _ _ _ _ _ _ h
theorem Bt.far (h : Bt w b x y z) {p : Addr} (hp : b ≠ p.block) (v : Value) : Bt (w.setCell p v) b x y z := by
  unfold Bt at h ⊢
  rw [Below.heap_setCell _ _ _ _ hp]; exact h
end
theorem eqt_c {x y : Value} {A B C : List (List Int)} {w : World} (hx : Tri w x A B C) (hy : Tri w y A B C) (hm : Tsz A B C) :
    Calls Try.prog 15 #[x, y] w fun e w' => e = .returned (.bool true) ∧ Below w.heap.size w w' := by
  obtain ⟨a, b, c, rfl, h1, h2, h3⟩ := hx
  obtain ⟨a', b', c', rfl, h4, h5, h6⟩ := hy
  obtain ⟨a1, c1, rfl, _⟩ := id h1
  obtain ⟨a2, c2, rfl, _⟩ := id h2
  obtain ⟨a3, c3, rfl, _⟩ := id h3
  obtain ⟨a4, c4, rfl, _⟩ := id h4
  obtain ⟨a5, c5, rfl, _⟩ := id h5
  obtain ⟨a6, c6, rfl, _⟩ := id h6
  go_enter Try.func15, Try.ntmps15
  have hb0 : Below w.heap.size w ((w.alloc (.cells #[.slice a1 A.length c1, .slice a2 B.length c2, .slice a3 C.length c3] 34)).alloc (.cells #[.slice a4 A.length c4, .slice a5 B.length c5, .slice a6 C.length c6] 34)) := (by repeat (first | exact Below.refl _ _ | apply blw_drew | apply blw_alloc | (refine blw_set ?_ (by first | omega | (simp; done) | (simp; omega)) _) | refine below_chain ?_ (by assumption)))
  have h1 := h1.below hb0; have h2 := h2.below hb0; have h3 := h3.below hb0; have h4 := h4.below hb0; have h5 := h5.below hb0; have h6 := h6.below hb0
  have d0 : ((w.alloc (.cells #[.slice a1 A.length c1, .slice a2 B.length c2, .slice a3 C.length c3] 34)).alloc (.cells #[.slice a4 A.length c4, .slice a5 B.length c5, .slice a6 C.length c6] 34)).cell? ⟨w.heap.size, 0, none⟩ = some (.slice a1 A.length c1) := by simp [go_sem]
  have d1 : ((w.alloc (.cells #[.slice a1 A.length c1, .slice a2 B.length c2, .slice a3 C.length c3] 34)).alloc (.cells #[.slice a4 A.length c4, .slice a5 B.length c5, .slice a6 C.length c6] 34)).cell? ⟨w.heap.size, 1, none⟩ = some (.slice a2 B.length c2) := by simp [go_sem]
  have d2 : ((w.alloc (.cells #[.slice a1 A.length c1, .slice a2 B.length c2, .slice a3 C.length c3] 34)).alloc (.cells #[.slice a4 A.length c4, .slice a5 B.length c5, .slice a6 C.length c6] 34)).cell? ⟨w.heap.size, 2, none⟩ = some (.slice a3 C.length c3) := by simp [go_sem]
  have e0 : ((w.alloc (.cells #[.slice a1 A.length c1, .slice a2 B.length c2, .slice a3 C.length c3] 34)).alloc (.cells #[.slice a4 A.length c4, .slice a5 B.length c5, .slice a6 C.length c6] 34)).cell? ⟨w.heap.size + 1, 0, none⟩ = some (.slice a4 A.length c4) := by simp [go_sem]
  have e1 : ((w.alloc (.cells #[.slice a1 A.length c1, .slice a2 B.length c2, .slice a3 C.length c3] 34)).alloc (.cells #[.slice a4 A.length c4, .slice a5 B.length c5, .slice a6 C.length c6] 34)).cell? ⟨w.heap.size + 1, 1, none⟩ = some (.slice a5 B.length c5) := by simp [go_sem]
  have e2 : ((w.alloc (.cells #[.slice a1 A.length c1, .slice a2 B.length c2, .slice a3 C.length c3] 34)).alloc (.cells #[.slice a4 A.length c4, .slice a5 B.length c5, .slice a6 C.length c6] 34)).cell? ⟨w.heap.size + 1, 2, none⟩ = some (.slice a6 C.length c6) := by simp [go_sem]
  go_wp2_with fail
  refine (eqm_c h1 h4 hm.a).mono ?_; rintro e w1 ⟨rfl, hb1⟩
  have h1 := h1.below hb1; have h2 := h2.below hb1; have h3 := h3.below hb1; have h4 := h4.below hb1; have h5 := h5.below hb1; have h6 := h6.below hb1; have d0 := kept hb1 d0; have d1 := kept hb1 d1; have d2 := kept hb1 d2; have e0 := kept hb1 e0; have e1 := kept hb1 e1; have e2 := kept hb1 e2
  go_wp2_with fail
  refine (eqm_c h2 h5 hm.b).mono ?_; rintro e w2 ⟨rfl, hb2⟩
  have h1 := h1.below hb2; have h2 := h2.below hb2; have h3 := h3.below hb2; have h4 := h4.below hb2; have h5 := h5.below hb2; have h6 := h6.below hb2; have d0 := kept hb2 d0; have d1 := kept hb2 d1; have d2 := kept hb2 d2; have e0 := kept hb2 e0; have e1 := kept hb2 e1; have e2 := kept hb2 e2
  go_wp2_with fail
  refine (eqm_c h3 h6 hm.c).mono ?_; rintro e w3 ⟨rfl, hb3⟩
  have h1 := h1.below hb3; have h2 := h2.below hb3; have h3 := h3.below hb3; have h4 := h4.below hb3; have h5 := h5.below hb3; have h6 := h6.below hb3; have d0 := kept hb3 d0; have d1 := kept hb3 d1; have d2 := kept hb3 d2; have e0 := kept hb3 e0; have e1 := kept hb3 e1; have e2 := kept hb3 e2
  go_wp2_with fail
  go_ret
  exact ⟨rfl, (by repeat (first | exact Below.refl _ _ | apply blw_drew | apply blw_alloc | (refine blw_set ?_ (by first | omega | (simp; done) | (simp; omega)) _) | refine below_chain ?_ (by assumption)))⟩
end Go.Proofs.Ytmplpoccalccoaa
