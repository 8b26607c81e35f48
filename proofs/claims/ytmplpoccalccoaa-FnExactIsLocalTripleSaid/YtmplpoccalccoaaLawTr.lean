/-
  The laws' helpers over triples of matrices that are parameters: sizes, copies, comparison.
-/
import Derived.Test.YtmplpoccalccoaaJbp
namespace Go.Proofs.Ytmplpoccalccoaa
open Go.RowKit

/-- A triple as it came in, and one that calls may take. -/
def Tri (w : World) (v : Value) (A B C : List (List Int)) : Prop := ∃ a b c, v = .agg #[a, b, c] ∧ Rs w a A ∧ Rs w b B ∧ Rs w c C
def Tv (w : World) (v : Value) (A B C : List (List Int)) : Prop := ∃ a b c, v = .agg #[a, b, c] ∧ Re w a A ∧ Re w b B ∧ Re w c C
structure Tbig (A B C : List (List Int)) : Prop where
  a : Mbig A
  b : Mbig B
  c : Mbig C
structure Tsz (A B C : List (List Int)) : Prop where
  a : Msz A
  b : Msz B
  c : Msz C
section
variable {w w' : World} {v : Value} {A B C : List (List Int)}
theorem Tri.below (h : Tri w v A B C) (hb : Below w.heap.size w w') : Tri w' v A B C := by
  obtain ⟨a, b, c, rfl, h1, h2, h3⟩ := h
  exact ⟨a, b, c, rfl, h1.below hb, h2.below hb, h3.below hb⟩
theorem Tv.below (h : Tv w v A B C) (hb : Below w.heap.size w w') : Tv w' v A B C := by
  obtain ⟨a, b, c, rfl, h1, h2, h3⟩ := h
  exact ⟨a, b, c, rfl, h1.below hb, h2.below hb, h3.below hb⟩
theorem Tv.tr (h : Tv w v A B C) : Tri w v A B C := by
  obtain ⟨a, b, c, rfl, h1, h2, h3⟩ := h
  exact ⟨a, b, c, rfl, h1.rs, h2.rs, h3.rs⟩
end
def szT (left : Int) (A B C : List (List Int)) : Int := if szR left A < 0 then -1 else if szR (szR left A) B < 0 then -1 else szR (szR (szR left A) B) C
theorem szT_bd {left : Int} {A B C : List (List Int)} (h0 : 0 ≤ left) (h1 : left ≤ 1048576) : -1 ≤ szT left A B C ∧ szT left A B C ≤ 1048576 := by
  have hA := szR_bd (xss := A) h0 h1
  unfold szT
  split
  · omega
  · have hB := szR_bd (xss := B) (left := szR left A) (by omega) (by omega)
    split
    · omega
    · exact szR_bd (by omega) (by omega)
theorem szT_ms {left : Int} {A B C : List (List Int)} (h0 : 0 ≤ left) (h1 : left ≤ 1048576) (h : ¬ szT left A B C < 0) : Tsz A B C := by
  have hA := szR_bd (xss := A) h0 h1
  unfold szT at h
  split at h
  · exact absurd (by decide) h
  · have hB := szR_bd (xss := B) (left := szR left A) (by omega) (by omega)
    split at h
    · exact absurd (by decide) h
    · exact ⟨szM_ms h0 h1 (by assumption), szM_ms (left := szR left A) (by omega) (by omega) (by assumption), szM_ms (left := szR (szR left A) B) (by omega) (by omega) h⟩
theorem szt_c {x : Value} {A B C : List (List Int)} {left : Int} {w : World} (hx : Tri w x A B C) (hb : Tbig A B C) (h0 : 0 ≤ left) (h1 : left ≤ 1048576) :
    Calls Try.prog 9 #[x, .int .i64 left] w fun e w' => e = .returned (.int .i64 (szT left A B C)) ∧ Below w.heap.size w w' := by
  obtain ⟨a, b, c, rfl, hA, hB, hC⟩ := hx
  obtain ⟨a1, c1, rfl, _⟩ := id hA
  obtain ⟨a2, c2, rfl, _⟩ := id hB
  obtain ⟨a3, c3, rfl, _⟩ := id hC
  have bA := szR_bd (xss := A) h0 h1
  have kA := fun (W : World) x (hx : Rs W x A) => szm_c (w := W) hx hb.a h0 h1
  have e : szT left A B C = if szR left A < 0 then -1 else if szR (szR left A) B < 0 then -1 else szR (szR (szR left A) B) C := rfl
  rw [e]; clear e
  obtain ⟨z1, hz1⟩ : ∃ z, z = szR left A := ⟨_, rfl⟩
  simp only [← hz1] at kA bA ⊢
  clear hz1
  by_cases n1 : z1 < 0
  · obtain rfl : z1 = -1 := by omega
    rw [if_pos (by decide)]
    go_enter Try.func9, Try.ntmps9
    have hb0 : Below w.heap.size w (w.alloc (.cells #[.slice a1 A.length c1, .slice a2 B.length c2, .slice a3 C.length c3] 27)) := (by repeat (first | exact Below.refl _ _ | apply blw_drew | apply blw_alloc | (refine blw_set ?_ (by first | omega | (simp; done) | (simp; omega)) _) | refine below_chain ?_ (by assumption)))
    have hA := hA.below hb0
    have d0 : (w.alloc (.cells #[.slice a1 A.length c1, .slice a2 B.length c2, .slice a3 C.length c3] 27)).cell? ⟨w.heap.size, 0, none⟩ = some (.slice a1 A.length c1) := by simp [go_sem]
    have d1 : (w.alloc (.cells #[.slice a1 A.length c1, .slice a2 B.length c2, .slice a3 C.length c3] 27)).cell? ⟨w.heap.size, 1, none⟩ = some (.slice a2 B.length c2) := by simp [go_sem]
    have d2 : (w.alloc (.cells #[.slice a1 A.length c1, .slice a2 B.length c2, .slice a3 C.length c3] 27)).cell? ⟨w.heap.size, 2, none⟩ = some (.slice a3 C.length c3) := by simp [go_sem]
    go_wp2_with fail
    refine (kA _ _ hA).mono ?_; rintro e w1 ⟨rfl, hb1⟩
    have hA := hA.below hb1; have d0 := kept hb1 d0; have d1 := kept hb1 d1; have d2 := kept hb1 d2
    go_wp2_with fail
    go_ret
    exact ⟨rfl, (by repeat (first | exact Below.refl _ _ | apply blw_drew | apply blw_alloc | (refine blw_set ?_ (by first | omega | (simp; done) | (simp; omega)) _) | refine below_chain ?_ (by assumption)))⟩
  rw [if_neg n1]
  have bB := szR_bd (xss := B) (left := z1) (by omega) (by omega)
  have kB := fun (W : World) x (hx : Rs W x B) => szm_c (w := W) hx hb.b (left := z1) (by omega) (by omega)
  obtain ⟨z2, hz2⟩ : ∃ z, z = szR z1 B := ⟨_, rfl⟩
  simp only [← hz2] at kB bB ⊢
  clear hz2
  by_cases n2 : z2 < 0
  · obtain rfl : z2 = -1 := by omega
    rw [if_pos (by decide)]
    go_enter Try.func9, Try.ntmps9
    have hb0 : Below w.heap.size w (w.alloc (.cells #[.slice a1 A.length c1, .slice a2 B.length c2, .slice a3 C.length c3] 27)) := (by repeat (first | exact Below.refl _ _ | apply blw_drew | apply blw_alloc | (refine blw_set ?_ (by first | omega | (simp; done) | (simp; omega)) _) | refine below_chain ?_ (by assumption)))
    have hA := hA.below hb0; have hB := hB.below hb0
    have d0 : (w.alloc (.cells #[.slice a1 A.length c1, .slice a2 B.length c2, .slice a3 C.length c3] 27)).cell? ⟨w.heap.size, 0, none⟩ = some (.slice a1 A.length c1) := by simp [go_sem]
    have d1 : (w.alloc (.cells #[.slice a1 A.length c1, .slice a2 B.length c2, .slice a3 C.length c3] 27)).cell? ⟨w.heap.size, 1, none⟩ = some (.slice a2 B.length c2) := by simp [go_sem]
    have d2 : (w.alloc (.cells #[.slice a1 A.length c1, .slice a2 B.length c2, .slice a3 C.length c3] 27)).cell? ⟨w.heap.size, 2, none⟩ = some (.slice a3 C.length c3) := by simp [go_sem]
    go_wp2_with fail
    refine (kA _ _ hA).mono ?_; rintro e w1 ⟨rfl, hb1⟩
    have hA := hA.below hb1; have hB := hB.below hb1; have d0 := kept hb1 d0; have d1 := kept hb1 d1; have d2 := kept hb1 d2
    go_wp2_with fail
    refine (kB _ _ hB).mono ?_; rintro e w2 ⟨rfl, hb2⟩
    have hA := hA.below hb2; have hB := hB.below hb2; have d0 := kept hb2 d0; have d1 := kept hb2 d1; have d2 := kept hb2 d2
    go_wp2_with fail
    go_ret
    exact ⟨rfl, (by repeat (first | exact Below.refl _ _ | apply blw_drew | apply blw_alloc | (refine blw_set ?_ (by first | omega | (simp; done) | (simp; omega)) _) | refine below_chain ?_ (by assumption)))⟩
  rw [if_neg n2]
  have bC := szR_bd (xss := C) (left := z2) (by omega) (by omega)
  have kC := fun (W : World) x (hx : Rs W x C) => szm_c (w := W) hx hb.c (left := z2) (by omega) (by omega)
  obtain ⟨z3, hz3⟩ : ∃ z, z = szR z2 C := ⟨_, rfl⟩
  simp only [← hz3] at kC bC ⊢
  clear hz3
  have hneg : z3 < 0 → z3 = -1 := fun h => by omega
  have HQ := Lib.hid hneg; clear hneg
  by_cases n3 : z3 < 0
  all_goals
    go_enter Try.func9, Try.ntmps9
    have hb0 : Below w.heap.size w (w.alloc (.cells #[.slice a1 A.length c1, .slice a2 B.length c2, .slice a3 C.length c3] 27)) := (by repeat (first | exact Below.refl _ _ | apply blw_drew | apply blw_alloc | (refine blw_set ?_ (by first | omega | (simp; done) | (simp; omega)) _) | refine below_chain ?_ (by assumption)))
    have hA := hA.below hb0; have hB := hB.below hb0; have hC := hC.below hb0
    have d0 : (w.alloc (.cells #[.slice a1 A.length c1, .slice a2 B.length c2, .slice a3 C.length c3] 27)).cell? ⟨w.heap.size, 0, none⟩ = some (.slice a1 A.length c1) := by simp [go_sem]
    have d1 : (w.alloc (.cells #[.slice a1 A.length c1, .slice a2 B.length c2, .slice a3 C.length c3] 27)).cell? ⟨w.heap.size, 1, none⟩ = some (.slice a2 B.length c2) := by simp [go_sem]
    have d2 : (w.alloc (.cells #[.slice a1 A.length c1, .slice a2 B.length c2, .slice a3 C.length c3] 27)).cell? ⟨w.heap.size, 2, none⟩ = some (.slice a3 C.length c3) := by simp [go_sem]
    go_wp2_with fail
    refine (kA _ _ hA).mono ?_; rintro e w1 ⟨rfl, hb1⟩
    have hA := hA.below hb1; have hB := hB.below hb1; have hC := hC.below hb1; have d0 := kept hb1 d0; have d1 := kept hb1 d1; have d2 := kept hb1 d2
    go_wp2_with fail
    refine (kB _ _ hB).mono ?_; rintro e w2 ⟨rfl, hb2⟩
    have hA := hA.below hb2; have hB := hB.below hb2; have hC := hC.below hb2; have d0 := kept hb2 d0; have d1 := kept hb2 d1; have d2 := kept hb2 d2
    go_wp2_with fail
    refine (kC _ _ hC).mono ?_; rintro e w3 ⟨rfl, hb3⟩
    have hA := hA.below hb3; have hB := hB.below hb3; have hC := hC.below hb3; have d0 := kept hb3 d0; have d1 := kept hb3 d1; have d2 := kept hb3 d2
    go_wp2_with fail
    go_ret
    exact ⟨by first | rfl | rw [HQ.out n3]; rfl, (by repeat (first | exact Below.refl _ _ | apply blw_drew | apply blw_alloc | (refine blw_set ?_ (by first | omega | (simp; done) | (simp; omega)) _) | refine below_chain ?_ (by assumption)))⟩
/-- A block of three cells. -/
def Bt (w : World) (b : Nat) (x y z : Value) : Prop := w.heap[b]? = some (.cells #[x, y, z] 34 (0, 0))
section
variable {w w' : World} {b : Nat} {x y z : Value}
theorem Bt.lt (h : Bt w b x y z) : b < w.heap.size := (Array.getElem?_eq_some_iff.1 h).1
theorem Bt.c0 (h : Bt w b x y z) : w.cell? ⟨b, 0, none⟩ = some x := by
  unfold Bt at h; simp [World.cell?, h]
theorem Bt.c1 (h : Bt w b x y z) : w.cell? ⟨b, 1, none⟩ = some y := by
  unfold Bt at h; simp [World.cell?, h]
theorem Bt.c2 (h : Bt w b x y z) : w.cell? ⟨b, 2, none⟩ = some z := by
  unfold Bt at h; simp [World.cell?, h]
theorem Bt.f (h : Bt w b x y z) (i : Nat) : w.frozen? ⟨b, i, none⟩ = false := frozen_of_row _ _ _ _ _ h
theorem Bt.below (h : Bt w b x y z) (hb : Below w.heap.size w w') : Bt w' b x y z := by
  have hl := h.lt
  unfold Bt at h ⊢
  rw [hb.block b hl]; exact h
theorem Bt.set0 (h : Bt w b x y z) (v : Value) : Bt (w.setCell ⟨b, 0, none⟩ v) b v y z := heap_setCell_same _ _ _ _ _ _ h
theorem Bt.set1 (h : Bt w b x y z) (v : Value) : Bt (w.setCell ⟨b, 1, none⟩ v) b x v z := heap_setCell_same _ _ _ _ _ _ h
theorem Bt.far (h : Bt w b x y z) {p : Addr} (hp : b ≠ p.block) (v : Value) : Bt (w.setCell p v) b x y z := by
  unfold Bt at h ⊢
  rw [Below.heap_setCell _ _ _ _ hp]; exact h
end
set_option maxHeartbeats 1000000 in
theorem tot_c {x : Value} {A B C : List (List Int)} {w : World} (hx : Tri w x A B C) (hm : Tsz A B C) :
    Calls Try.prog 12 #[x] w fun e w' => ∃ v, e = .returned v ∧ Tv w' v A B C ∧ Below w.heap.size w w' := by
  obtain ⟨a, b, c, rfl, hA, hB, hC⟩ := hx
  obtain ⟨a1, c1, rfl, _⟩ := id hA
  obtain ⟨a2, c2, rfl, _⟩ := id hB
  obtain ⟨a3, c3, rfl, _⟩ := id hC
  go_enter Try.func12, Try.ntmps12
  obtain ⟨w1, hw1⟩ : ∃ x, x = (((w.alloc (.cells #[.slice a1 A.length c1, .slice a2 B.length c2, .slice a3 C.length c3] 27)).alloc (.cells #[.slice none 0 0, .slice none 0 0, .slice none 0 0] 34)).alloc (.cells #[.slice none 0 0, .slice none 0 0, .slice none 0 0] 34)) := ⟨_, rfl⟩
  have hb : Below w.heap.size w w1 := by rw [hw1]; exact (by repeat (first | exact Below.refl _ _ | apply blw_drew | apply blw_alloc | (refine blw_set ?_ (by first | omega | (simp; done) | (simp; omega)) _) | refine below_chain ?_ (by assumption)))
  have hz : w.heap.size + 1 + 1 + 1 ≤ w1.heap.size := by rw [hw1]; simp
  have d1 : w1.cell? ⟨w.heap.size, 1, none⟩ = some (.slice a2 B.length c2) := by rw [hw1]; simp [go_sem]
  have d2 : w1.cell? ⟨w.heap.size, 2, none⟩ = some (.slice a3 C.length c3) := by rw [hw1]; simp [go_sem]
  have d0 : w1.cell? ⟨w.heap.size, 0, none⟩ = some (.slice a1 A.length c1) := by rw [hw1]; simp [go_sem]
  have hR : Bt w1 (w.heap.size + 1) (.slice none 0 0) (.slice none 0 0) (.slice none 0 0) := by
    rw [hw1]
    have h := heap_alloc_new (w.alloc (.cells #[.slice a1 A.length c1, .slice a2 B.length c2, .slice a3 C.length c3] 27)) (.cells #[.slice none 0 0, .slice none 0 0, .slice none 0 0] 34)
    rw [show (w.alloc (.cells #[.slice a1 A.length c1, .slice a2 B.length c2, .slice a3 C.length c3] 27)).heap.size = w.heap.size + 1 by simp] at h
    exact Bt.below h (by repeat (first | exact Below.refl _ _ | apply blw_drew | apply blw_alloc | (refine blw_set ?_ (by first | omega | (simp; done) | (simp; omega)) _) | refine below_chain ?_ (by assumption)))
  have hO : Bt w1 (w.heap.size + 1 + 1) (.slice none 0 0) (.slice none 0 0) (.slice none 0 0) := by
    rw [hw1]
    have h := heap_alloc_new ((w.alloc (.cells #[.slice a1 A.length c1, .slice a2 B.length c2, .slice a3 C.length c3] 27)).alloc (.cells #[.slice none 0 0, .slice none 0 0, .slice none 0 0] 34)) (.cells #[.slice none 0 0, .slice none 0 0, .slice none 0 0] 34)
    rw [show ((w.alloc (.cells #[.slice a1 A.length c1, .slice a2 B.length c2, .slice a3 C.length c3] 27)).alloc (.cells #[.slice none 0 0, .slice none 0 0, .slice none 0 0] 34)).heap.size = w.heap.size + 1 + 1 by simp] at h
    exact h
  go_wp2_with fail
  rw [← hw1]
  clear hw1
  refine (toss_c (hA.below hb) hm.a.h2 hm.a.h3).mono ?_; rintro e w2 ⟨v0, us0, rfl, k0, hop2⟩
  have hR := hR.below hop2; have hO := hO.below hop2; have d0 := kept hop2 d0; have d1 := kept hop2 d1; have d2 := kept hop2 d2
  have hb := below_chain hb hop2
  have hz2 := hop2.size
  obtain ⟨e0, q0, rfl, _⟩ := id k0.re
  have k0 := k0.more (B' := w.heap.size + 1 + 1 + 1) (by omega)
  have o0 := hO.c0; have o1 := hO.c1; have o2 := hO.c2; have of := hO.f
  go_wp2_with fail
  obtain ⟨w3, hw_⟩ : ∃ x, x = w2.setCell ⟨w.heap.size + 1 + 1, 0, none⟩ (.slice e0 A.length q0) := ⟨_, rfl⟩
  have hb_ : Below w.heap.size w w3 := by rw [hw_]; exact blw_set hb (by simp; omega) _
  have hz3 : w2.heap.size ≤ w3.heap.size := by rw [hw_]; simp [World.setCell]
  have hO_ := hO.set0 (.slice e0 A.length q0)
  have hR_ := hR.far (p := ⟨w.heap.size + 1 + 1, 0, none⟩) (by simp) (.slice e0 A.length q0)
  have d0 : w3.cell? ⟨w.heap.size, 0, none⟩ = some (.slice a1 A.length c1) := by rw [hw_]; simp [go_sem, d0]
  have d1 : w3.cell? ⟨w.heap.size, 1, none⟩ = some (.slice a2 B.length c2) := by rw [hw_]; simp [go_sem, d1]
  have d2 : w3.cell? ⟨w.heap.size, 2, none⟩ = some (.slice a3 C.length c3) := by rw [hw_]; simp [go_sem, d2]
  have k0_ := k0.set_ (p := ⟨w.heap.size + 1 + 1, 0, none⟩) (by simp) (.slice e0 A.length q0)
  rw [← hw_] at hO_ hR_ k0_ ⊢
  clear o0 o1 o2 of hO hR hb hw_ k0
  have hb := hb_; have hO := hO_; have hR := hR_; clear hb_ hO_ hR_
  have k0 := k0_; clear k0_
  refine (toss_c (hB.below hb) hm.b.h2 hm.b.h3).mono ?_; rintro e w4 ⟨v1, us1, rfl, k1, hop4⟩
  have hR := hR.below hop4; have hO := hO.below hop4; have d0 := kept hop4 d0; have d1 := kept hop4 d1; have d2 := kept hop4 d2
  have hb := below_chain hb hop4
  have hz4 := hop4.size
  obtain ⟨e1, q1, rfl, _⟩ := id k1.re
  have k1 := k1.more (B' := w.heap.size + 1 + 1 + 1) (by omega)
  have k0 := k0.below hop4
  have o0 := hO.c0; have o1 := hO.c1; have o2 := hO.c2; have of := hO.f
  go_wp2_with fail
  obtain ⟨w5, hw_⟩ : ∃ x, x = w4.setCell ⟨w.heap.size + 1 + 1, 1, none⟩ (.slice e1 B.length q1) := ⟨_, rfl⟩
  have hb_ : Below w.heap.size w w5 := by rw [hw_]; exact blw_set hb (by simp; omega) _
  have hz5 : w4.heap.size ≤ w5.heap.size := by rw [hw_]; simp [World.setCell]
  have hO_ := hO.set1 (.slice e1 B.length q1)
  have hR_ := hR.far (p := ⟨w.heap.size + 1 + 1, 1, none⟩) (by simp) (.slice e1 B.length q1)
  have d0 : w5.cell? ⟨w.heap.size, 0, none⟩ = some (.slice a1 A.length c1) := by rw [hw_]; simp [go_sem, d0]
  have d1 : w5.cell? ⟨w.heap.size, 1, none⟩ = some (.slice a2 B.length c2) := by rw [hw_]; simp [go_sem, d1]
  have d2 : w5.cell? ⟨w.heap.size, 2, none⟩ = some (.slice a3 C.length c3) := by rw [hw_]; simp [go_sem, d2]
  have k0_ := k0.set_ (p := ⟨w.heap.size + 1 + 1, 1, none⟩) (by simp) (.slice e1 B.length q1)
  have k1_ := k1.set_ (p := ⟨w.heap.size + 1 + 1, 1, none⟩) (by simp) (.slice e1 B.length q1)
  rw [← hw_] at hO_ hR_ k0_ k1_ ⊢
  clear o0 o1 o2 of hO hR hb hw_ k0 k1
  have hb := hb_; have hO := hO_; have hR := hR_; clear hb_ hO_ hR_
  have k0 := k0_; clear k0_
  have k1 := k1_; clear k1_
  refine (toss_c (hC.below hb) hm.c.h2 hm.c.h3).mono ?_; rintro e w6 ⟨v2, us2, rfl, k2, hop6⟩
  have hR := hR.below hop6; have hO := hO.below hop6; have d0 := kept hop6 d0; have d1 := kept hop6 d1; have d2 := kept hop6 d2
  have hb := below_chain hb hop6
  have hz6 := hop6.size
  obtain ⟨e2, q2, rfl, _⟩ := id k2.re
  have k2 := k2.more (B' := w.heap.size + 1 + 1 + 1) (by omega)
  have k0 := k0.below hop6
  have k1 := k1.below hop6
  have o0 := hO.c0; have o1 := hO.c1; have o2 := hO.c2; have of := hO.f
  have r0 := hR.c0; have r1 := hR.c1; have r2 := hR.c2; have rf := hR.f
  go_wp2_with fail
  refine bodyPost_ret (v := .agg #[.slice e0 A.length q0, .slice e1 B.length q1, .slice e2 C.length q2]) (by simp [results, Try.results12, go_sem, r0, r1, r2]) rfl ⟨_, rfl, ?_, ?_⟩
  · refine ⟨_, _, _, rfl, ?_, ?_, ?_⟩
    · exact ((((k0.set_ (by simp) _).set_ (by simp) _).set_ (by simp) _).set_ (by simp) _).re
    · exact ((((k1.set_ (by simp) _).set_ (by simp) _).set_ (by simp) _).set_ (by simp) _).re
    · exact ((((k2.set_ (by simp) _).set_ (by simp) _).set_ (by simp) _).set_ (by simp) _).re
  · exact blw_set (blw_set (blw_set (blw_set hb (by simp; omega) _) (by simp) _) (by simp) _) (by simp) _
theorem eqt_c {x y : Value} {A B C : List (List Int)} {w : World} (hx : Tri w x A B C) (hy : Tri w y A B C) (hm : Tsz A B C) :
    Calls Try.prog 15 #[x, y] w fun e w' => e = .returned (.bool true) ∧ Below w.heap.size w w' := by
  obtain ⟨a, b, c, rfl, h1, h2, h3⟩ := hx
  obtain ⟨a', b', c', rfl, h4, h5, h6⟩ := hy
  obtain ⟨a1, c1, rfl, _⟩ := id h1
  obtain ⟨a2, c2, rfl, _⟩ := id h2
  obtain ⟨a3, c3, rfl, _⟩ := id h3
  obtain ⟨a4, c4, rfl, _⟩ := id h4
  obtain ⟨a5, c5, rfl, _⟩ := id h5
  obtain ⟨a6, c6, rfl, _⟩ := id h6
  go_enter Try.func15, Try.ntmps15
  have hb0 : Below w.heap.size w ((w.alloc (.cells #[.slice a1 A.length c1, .slice a2 B.length c2, .slice a3 C.length c3] 34)).alloc (.cells #[.slice a4 A.length c4, .slice a5 B.length c5, .slice a6 C.length c6] 34)) := (by repeat (first | exact Below.refl _ _ | apply blw_drew | apply blw_alloc | (refine blw_set ?_ (by first | omega | (simp; done) | (simp; omega)) _) | refine below_chain ?_ (by assumption)))
  have h1 := h1.below hb0; have h2 := h2.below hb0; have h3 := h3.below hb0; have h4 := h4.below hb0; have h5 := h5.below hb0; have h6 := h6.below hb0
  have d0 : ((w.alloc (.cells #[.slice a1 A.length c1, .slice a2 B.length c2, .slice a3 C.length c3] 34)).alloc (.cells #[.slice a4 A.length c4, .slice a5 B.length c5, .slice a6 C.length c6] 34)).cell? ⟨w.heap.size, 0, none⟩ = some (.slice a1 A.length c1) := by simp [go_sem]
  have d1 : ((w.alloc (.cells #[.slice a1 A.length c1, .slice a2 B.length c2, .slice a3 C.length c3] 34)).alloc (.cells #[.slice a4 A.length c4, .slice a5 B.length c5, .slice a6 C.length c6] 34)).cell? ⟨w.heap.size, 1, none⟩ = some (.slice a2 B.length c2) := by simp [go_sem]
  have d2 : ((w.alloc (.cells #[.slice a1 A.length c1, .slice a2 B.length c2, .slice a3 C.length c3] 34)).alloc (.cells #[.slice a4 A.length c4, .slice a5 B.length c5, .slice a6 C.length c6] 34)).cell? ⟨w.heap.size, 2, none⟩ = some (.slice a3 C.length c3) := by simp [go_sem]
  have e0 : ((w.alloc (.cells #[.slice a1 A.length c1, .slice a2 B.length c2, .slice a3 C.length c3] 34)).alloc (.cells #[.slice a4 A.length c4, .slice a5 B.length c5, .slice a6 C.length c6] 34)).cell? ⟨w.heap.size + 1, 0, none⟩ = some (.slice a4 A.length c4) := by simp [go_sem]
  have e1 : ((w.alloc (.cells #[.slice a1 A.length c1, .slice a2 B.length c2, .slice a3 C.length c3] 34)).alloc (.cells #[.slice a4 A.length c4, .slice a5 B.length c5, .slice a6 C.length c6] 34)).cell? ⟨w.heap.size + 1, 1, none⟩ = some (.slice a5 B.length c5) := by simp [go_sem]
  have e2 : ((w.alloc (.cells #[.slice a1 A.length c1, .slice a2 B.length c2, .slice a3 C.length c3] 34)).alloc (.cells #[.slice a4 A.length c4, .slice a5 B.length c5, .slice a6 C.length c6] 34)).cell? ⟨w.heap.size + 1, 2, none⟩ = some (.slice a6 C.length c6) := by simp [go_sem]
  go_wp2_with fail
  refine (eqm_c h1 h4 hm.a).mono ?_; rintro e w1 ⟨rfl, hb1⟩
  have h1 := h1.below hb1; have h2 := h2.below hb1; have h3 := h3.below hb1; have h4 := h4.below hb1; have h5 := h5.below hb1; have h6 := h6.below hb1; have d0 := kept hb1 d0; have d1 := kept hb1 d1; have d2 := kept hb1 d2; have e0 := kept hb1 e0; have e1 := kept hb1 e1; have e2 := kept hb1 e2
  go_wp2_with fail
  refine (eqm_c h2 h5 hm.b).mono ?_; rintro e w2 ⟨rfl, hb2⟩
  have h1 := h1.below hb2; have h2 := h2.below hb2; have h3 := h3.below hb2; have h4 := h4.below hb2; have h5 := h5.below hb2; have h6 := h6.below hb2; have d0 := kept hb2 d0; have d1 := kept hb2 d1; have d2 := kept hb2 d2; have e0 := kept hb2 e0; have e1 := kept hb2 e1; have e2 := kept hb2 e2
  go_wp2_with fail
  refine (eqm_c h3 h6 hm.c).mono ?_; rintro e w3 ⟨rfl, hb3⟩
  have h1 := h1.below hb3; have h2 := h2.below hb3; have h3 := h3.below hb3; have h4 := h4.below hb3; have h5 := h5.below hb3; have h6 := h6.below hb3; have d0 := kept hb3 d0; have d1 := kept hb3 d1; have d2 := kept hb3 d2; have e0 := kept hb3 e0; have e1 := kept hb3 e1; have e2 := kept hb3 e2
  go_wp2_with fail
  go_ret
  exact ⟨rfl, (by repeat (first | exact Below.refl _ _ | apply blw_drew | apply blw_alloc | (refine blw_set ?_ (by first | omega | (simp; done) | (simp; omega)) _) | refine below_chain ?_ (by assumption)))⟩
end Go.Proofs.Ytmplpoccalccoaa
