/- Texts joined for a claim: HcX, HcY, HcZ, HcN, HcO, CJordanPower, JorA, CJordanInverse, CJordanCross. -/
import Derived.Test.YtgcelfnjijhmkaaGreatHcW
import Derived.Test.YtgcelfnjijhmkaaGreatJbb
import Derived.Test.YtgcelfnjijhmkaaGreatJbc
import Derived.Test.YtgcelfnjijhmkaaGreatJan
import Derived.Test.YtgcelfnjijhmkaaGreatJbi
/-
  The reference's equality of matrices and idempotents; multiples.
-/
namespace Go.Proofs.YtgcelfnjijhmkaaGreat
open Go.RowKit

end Go.Proofs.YtgcelfnjijhmkaaGreat
/-
  The cross of matrices and multiples: program and reference.
-/
namespace Go.Proofs.YtgcelfnjijhmkaaGreat
open Go.RowKit

theorem sumH_neg {p : Int} {X Y : Her} : sumH p X (p - 1) Y = sumH p X (-1) Y := by
  have h : ∀ xs ys : List Int, plusL p xs ys (p - 1) = plusL p xs ys (-1) := fun xs ys => plusL_cong (by
    rw [show p - 1 = -1 + p * 1 by omega, Int.add_mul_emod_self_left])
  unfold sumH
  simp only [h]
theorem multH_sum {p n : Int} {m : Nat} {X : Her} (hX : isH p m X = true) : sumH p (sumH p X (-1) X) n X = multH p X n := by
  obtain ⟨a, b, c, u, v, t, rfl, _⟩ := isH_op hX
  have h0 : ∀ x : Int, ((x + -1 * x) % p + n * x) % p = x * n % p := fun x => by
    rw [show x + -1 * x = 0 by omega, Int.zero_emod, Int.zero_add, Int.mul_comm]
  have h : ∀ xs : List Int, plusL p (plusL p xs xs (-1)) xs n = scaleL p xs n := fun xs => by
    unfold plusL scaleL
    induction xs with
    | nil => rfl
    | cons x xs ih => simp only [List.zipWith_cons_cons, List.map_cons, ih, h0]
  unfold sumH multH Her.r
  simp only [h, List.getD_cons_zero, List.getD_cons_succ]
set_option maxRecDepth 100000 in
theorem sscale16_c {p k : Int} {s x : Value} {st : List Int} {X : Her} {w : World} (hd : Dok p st) (hs : El w s st) (hx : Hv w x X) (hX : isH p (sz st.length) X = true) (hk1 : -1000000 ≤ k) (hk2 : k ≤ 1000000) :
    Calls Tryz.prog 50 #[.agg #[.int .i64 p, s], .int .i64 k, x] w fun e w' => ∃ v, e = .returned v ∧ FrH w' w.heap.size v (multH p X k) ∧ Below w.heap.size w w' := by
  have hp1 := hd.hp.lo
  have hp2 := hd.hp.hi
  have hsz := sz_le hd
  have i1 := sumH_is (p := p) (k := p - 1) (by omega) hX hX
  have HM := Lib.hid (multH_sum (p := p) (n := k) hX)
  have HN := Lib.hid (sumH_neg (p := p) (X := X) (Y := X))
  have HS4 := Lib.hid (isH_parts (multH_is (p := p) (k := k) (by omega) hX)).2.2.1
  obtain ⟨a0, c0, rfl, _⟩ := id hs.op
  obtain ⟨dv1, uv1, rfl, hd1_, hu1_⟩ := id hx; obtain ⟨a1, c1, rfl, _⟩ := id hd1_.op; obtain ⟨b1, k1, rfl, _⟩ := id hu1_; clear hd1_ hu1_
  go_enter Tryz.func50, Tryz.ntmps50
  have hb0 : Below w.heap.size w (((w.alloc (.cells #[.int .i64 p, .slice a0 st.length c0] 26)).alloc (.cells #[.slice a1 X.dg.length c1, .slice b1 X.up.length k1] 31)).alloc (.cells #[.slice none 0 0, .slice none 0 0] 31)) := (by repeat (first | exact .refl _ _ | apply bwD | apply bwA | (refine bwS ?_ (by first | omega | simp <;> omega) _) | refine bwC ?_ (by assumption)))
  have hs := hs.below hb0; have hx := hx.below hb0
  have d0 : (((w.alloc (.cells #[.int .i64 p, .slice a0 st.length c0] 26)).alloc (.cells #[.slice a1 X.dg.length c1, .slice b1 X.up.length k1] 31)).alloc (.cells #[.slice none 0 0, .slice none 0 0] 31)).cell? ⟨w.heap.size, 0, none⟩ = some (.int .i64 p) := by simp [go_sem]
  have d1 : (((w.alloc (.cells #[.int .i64 p, .slice a0 st.length c0] 26)).alloc (.cells #[.slice a1 X.dg.length c1, .slice b1 X.up.length k1] 31)).alloc (.cells #[.slice none 0 0, .slice none 0 0] 31)).cell? ⟨w.heap.size, 1, none⟩ = some (.slice a0 st.length c0) := by simp [go_sem]
  have e0 : (((w.alloc (.cells #[.int .i64 p, .slice a0 st.length c0] 26)).alloc (.cells #[.slice a1 X.dg.length c1, .slice b1 X.up.length k1] 31)).alloc (.cells #[.slice none 0 0, .slice none 0 0] 31)).cell? ⟨w.heap.size + 1, 0, none⟩ = some (.slice a1 X.dg.length c1) := by simp [go_sem]
  have e1 : (((w.alloc (.cells #[.int .i64 p, .slice a0 st.length c0] 26)).alloc (.cells #[.slice a1 X.dg.length c1, .slice b1 X.up.length k1] 31)).alloc (.cells #[.slice none 0 0, .slice none 0 0] 31)).cell? ⟨w.heap.size + 1, 1, none⟩ = some (.slice b1 X.up.length k1) := by simp [go_sem]
  have r0 : (((w.alloc (.cells #[.int .i64 p, .slice a0 st.length c0] 26)).alloc (.cells #[.slice a1 X.dg.length c1, .slice b1 X.up.length k1] 31)).alloc (.cells #[.slice none 0 0, .slice none 0 0] 31)).cell? ⟨w.heap.size + 1 + 1, 0, none⟩ = some (.slice none 0 0) := by simp [go_sem]
  have r1 : (((w.alloc (.cells #[.int .i64 p, .slice a0 st.length c0] 26)).alloc (.cells #[.slice a1 X.dg.length c1, .slice b1 X.up.length k1] 31)).alloc (.cells #[.slice none 0 0, .slice none 0 0] 31)).cell? ⟨w.heap.size + 1 + 1, 1, none⟩ = some (.slice none 0 0) := by simp [go_sem]
  have hr : Bx (((w.alloc (.cells #[.int .i64 p, .slice a0 st.length c0] 26)).alloc (.cells #[.slice a1 X.dg.length c1, .slice b1 X.up.length k1] 31)).alloc (.cells #[.slice none 0 0, .slice none 0 0] 31)) (w.heap.size + 1 + 1) (.slice none 0 0) (.slice none 0 0) := by rw [show w.heap.size + 1 + 1 = ((w.alloc (.cells #[.int .i64 p, .slice a0 st.length c0] 26)).alloc (.cells #[.slice a1 X.dg.length c1, .slice b1 X.up.length k1] 31)).heap.size by simp]; exact heap_alloc_new _ _
  go_wp2_with fail
  refine region_flow [(false, [(0, 0), (1, 1), (2, 0), (3, 1), (4, 1), (5, 0), (6, 1), (7, 0), (8, 1), (10, 0), (11, 1), (9, 5)]), (false, [(12, 4), (13, 4)])] (by kernel_rfl) ?_
  refine norm_K fun K hK => ?_
  change wpList _ _ _ [_, _, _, _, _, _, _, _, _, _, _, _] _ _
  have hb1 : Below (((w.alloc (.cells #[.int .i64 p, .slice a0 st.length c0] 26)).alloc (.cells #[.slice a1 X.dg.length c1, .slice b1 X.up.length k1] 31)).alloc (.cells #[.slice none 0 0, .slice none 0 0] 31)).heap.size (((w.alloc (.cells #[.int .i64 p, .slice a0 st.length c0] 26)).alloc (.cells #[.slice a1 X.dg.length c1, .slice b1 X.up.length k1] 31)).alloc (.cells #[.slice none 0 0, .slice none 0 0] 31)) (((w.alloc (.cells #[.int .i64 p, .slice a0 st.length c0] 26)).alloc (.cells #[.slice a1 X.dg.length c1, .slice b1 X.up.length k1] 31)).alloc (.cells #[.slice none 0 0, .slice none 0 0] 31)).drew := (by repeat (first | exact .refl _ _ | apply bwD | apply bwA | (refine bwS ?_ (by first | omega | simp <;> omega) _) | refine bwC ?_ (by assumption)))
  have hs := hs.below hb1; have hx := hx.below hb1; have d0 := kept hb1 d0; have d1 := kept hb1 d1; have e0 := kept hb1 e0; have e1 := kept hb1 e1; have hr := hr.below hb1
  generalize (((w.alloc (.cells #[.int .i64 p, .slice a0 st.length c0] 26)).alloc (.cells #[.slice a1 X.dg.length c1, .slice b1 X.up.length k1] 31)).alloc (.cells #[.slice none 0 0, .slice none 0 0] 31)).drew = wq at *
  have hzq := below_le (show Below ((((w.alloc (.cells #[.int .i64 p, .slice a0 st.length c0] 26)).alloc (.cells #[.slice a1 X.dg.length c1, .slice b1 X.up.length k1] 31)).alloc (.cells #[.slice none 0 0, .slice none 0 0] 31))).heap.size ((((w.alloc (.cells #[.int .i64 p, .slice a0 st.length c0] 26)).alloc (.cells #[.slice a1 X.dg.length c1, .slice b1 X.up.length k1] 31)).alloc (.cells #[.slice none 0 0, .slice none 0 0] 31))) wq from (by repeat (first | exact .refl _ _ | apply bwD | apply bwA | (refine bwS ?_ (by first | omega | simp <;> omega) _) | refine bwC ?_ (by assumption))))
  simp at hzq
  go_wp2_with fail
  refine (ssum_c (k := p - 1) (by omega) (by omega) hx hX hx hX (by omega) (by omega) (by omega)).mono ?_; rintro e w2 ⟨v1, rfl, h1, hb2⟩
  have hs := hs.below hb2; have hx := hx.below hb2; have d0 := kept hb2 d0; have d1 := kept hb2 d1; have e0 := kept hb2 e0; have e1 := kept hb2 e1; have hr := hr.below hb2
  go_wp2_with fail
  have hz0 : Below wq.heap.size wq w2 := (by repeat (first | exact .refl _ _ | apply bwD | apply bwA | (refine bwS ?_ (by first | omega | simp <;> omega) _) | refine bwC ?_ (by assumption)))
  first | (refine hK _ _ ⟨hz0, ?_⟩; clear hK K) | refine ⟨hz0, ?_⟩
  clear hz0
  refine norm_K fun K hK => ?_
  change wpList _ _ _ [_, _] _ _
  have hzc : wq.heap.size ≤ (w2).heap.size := (below_le (by repeat (first | exact .refl _ _ | apply bwD | apply bwA | (refine bwS ?_ (by first | omega | simp <;> omega) _) | refine bwC ?_ (by assumption))))
  go_wp2_with fail
  refine (ssum_c (k := k) (by omega) (by omega) h1.hv i1 hx hX (by omega) hk1 hk2).mono ?_; rintro e w3 ⟨v2, rfl, hv, hb3⟩
  have hs := hs.below hb3; have hx := hx.below hb3; have d0 := kept hb3 d0; have d1 := kept hb3 d1; have e0 := kept hb3 e0; have e1 := kept hb3 e1; have hr := hr.below hb3; have h1 := h1.below hb3
  rw [HN.out, HM.out] at hv
  obtain ⟨d, u, us, rfl, ⟨g1, cap1, rfl, q1⟩, hu, hne⟩ := id hv
  obtain ⟨g2, cap2, rfl, _⟩ := id hu
  have hul : us.length = 3 := by obtain ⟨_, _, _, _, h, _⟩ := hu; rw [h, HS4.out]
  have HU := Lib.hid hul; clear hul
  have rc0 := hr.c0; have rc1 := hr.c1; have rf0 := hr.f0; have rf1 := hr.f1
  go_wp2_with fail
  first | (refine hK _ _ ⟨rfl, ?_⟩; clear hK K) | refine ⟨rfl, ?_⟩
  go_wp2_with fail
  refine bodyPost_ret (v := .agg #[.slice (some ⟨g1, 0, none⟩) (multH p X k).dg.length cap1, .slice (some ⟨g2, 0, none⟩) us.length cap2]) (by simp [results, Tryz.results50, go_sem, rc0, rc1, HU.out, HS4.out]) rfl ⟨_, rfl, ?_, ?_⟩
  · exact ((hv.set_ (by first | omega | simp <;> omega) _).set_ (by first | omega | simp <;> omega) _).more (below_le (by repeat (first | exact .refl _ _ | apply bwD | apply bwA | (refine bwS ?_ (by first | omega | simp <;> omega) _) | refine bwC ?_ (by assumption))))
  · exact bwS (bwS (by repeat (first | exact .refl _ _ | apply bwD | apply bwA | (refine bwS ?_ (by first | omega | simp <;> omega) _) | refine bwC ?_ (by assumption))) (by first | omega | simp <;> omega) _) (by first | omega | simp <;> omega) _
end Go.Proofs.YtgcelfnjijhmkaaGreat
/-
  The reference's cross.
-/
namespace Go.Proofs.YtgcelfnjijhmkaaGreat
open Go.RowKit

end Go.Proofs.YtgcelfnjijhmkaaGreat
/-
  The program's unit matrix.
-/
namespace Go.Proofs.YtgcelfnjijhmkaaGreat
open Go.RowKit

end Go.Proofs.YtgcelfnjijhmkaaGreat
/-
  JordanUnit: the program's and the reference's.
-/
namespace Go.Proofs.YtgcelfnjijhmkaaGreat
open Go.RowKit

end Go.Proofs.YtgcelfnjijhmkaaGreat
/-
  JordanPower: the program's and the reference's.
-/
namespace Go.Proofs.YtgcelfnjijhmkaaGreat
open Go.RowKit

end Go.Proofs.YtgcelfnjijhmkaaGreat
/-
  Jordan's laws for matrices as rows of numbers: products, the characteristic equation. No program in sight.
-/
namespace Go.Proofs.YtgcelfnjijhmkaaGreat

theorem IsP.lift {p : Int} (hp : IsP p) {Q : Prop} (h : ∀ (n : Nat) [NeZero n], p = (n : Int) → 2 * toF n (invL p 2) = 1 → Fld n → Q) : Q := by
  rcases hp with rfl | rfl | rfl | rfl | rfl
  · exact h 3 rfl (by decide) fld3
  · exact h 5 rfl (by decide) fld5
  · exact h 7 rfl (by decide) fld7
  · exact h 11 rfl (by decide) fld11
  · exact h 13 rfl (by decide) fld13
section
variable {p : Int} {st : List Int} {X Y : Her}
end
end Go.Proofs.YtgcelfnjijhmkaaGreat
/-
  JordanInverse: the program's and the reference's.
-/
namespace Go.Proofs.YtgcelfnjijhmkaaGreat
open Go.RowKit

end Go.Proofs.YtgcelfnjijhmkaaGreat
/-
  JordanCross: the program's and the reference's.
-/
namespace Go.Proofs.YtgcelfnjijhmkaaGreat
open Go.RowKit

end Go.Proofs.YtgcelfnjijhmkaaGreat
