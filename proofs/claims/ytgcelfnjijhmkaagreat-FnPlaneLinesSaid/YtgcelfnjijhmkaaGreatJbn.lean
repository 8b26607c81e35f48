/- Texts joined for a claim: HcN, HcO, CJordanPower, JorA, CJordanInverse, CJordanCross. -/
import Derived.Test.YtgcelfnjijhmkaaGreatJbd
import Derived.Test.YtgcelfnjijhmkaaGreatJbc
import Derived.Test.YtgcelfnjijhmkaaGreatJao
import Derived.Test.YtgcelfnjijhmkaaGreatHcZ
import Derived.Test.YtgcelfnjijhmkaaGreatJbj
/-
  The program's unit matrix.
-/
namespace Go.Proofs.YtgcelfnjijhmkaaGreat
open Go.RowKit

end Go.Proofs.YtgcelfnjijhmkaaGreat
/-
  JordanUnit: the program's and the reference's.
-/
namespace Go.Proofs.YtgcelfnjijhmkaaGreat
open Go.RowKit

end Go.Proofs.YtgcelfnjijhmkaaGreat
/-
  JordanPower: the program's and the reference's.
-/
namespace Go.Proofs.YtgcelfnjijhmkaaGreat
open Go.RowKit

end Go.Proofs.YtgcelfnjijhmkaaGreat
/-
  Jordan's laws for matrices as rows of numbers: products, the characteristic equation. No program in sight.
-/
namespace Go.Proofs.YtgcelfnjijhmkaaGreat

theorem IsP.lift {p : Int} (hp : IsP p) {Q : Prop} (h : ∀ (n : Nat) [NeZero n], p = (n : Int) → 2 * toF n (invL p 2) = 1 → Fld n → Q) : Q := by
  rcases hp with rfl | rfl | rfl | rfl | rfl
  · exact h 3 rfl (by decide) fld3
  · exact h 5 rfl (by decide) fld5
  · exact h 7 rfl (by decide) fld7
  · exact h 11 rfl (by decide) fld11
  · exact h 13 rfl (by decide) fld13
section
variable {p : Int} {st : List Int} {X Y : Her}
theorem jor_comm (hd : Dok p st) (hX : isH p (sz st.length) X = true) (hY : isH p (sz st.length) Y = true) : jordanH p st Y X = jordanH p st X Y := by
  have h2 : 2 ≤ p := by have := hd.hp.lo; omega
  refine hd.hp.lift fun n _ hn hiv _ => toH_inj (n := n) hn (sz_le hd).2 (jordanH_is h2 hY hX) (jordanH_is h2 hX hY) ?_
  rw [toH_jordan hn h2 hd.hl hY hX hiv, toH_jordan hn h2 hd.hl hX hY hiv, JC_comm]
end
end Go.Proofs.YtgcelfnjijhmkaaGreat
/-
  JordanInverse: the program's and the reference's.
-/
namespace Go.Proofs.YtgcelfnjijhmkaaGreat
open Go.RowKit

end Go.Proofs.YtgcelfnjijhmkaaGreat
/-
  JordanCross: the program's and the reference's.
-/
namespace Go.Proofs.YtgcelfnjijhmkaaGreat
open Go.RowKit

def RJordanCross1 (p0 : Int) (st0 : List Int) (X1 : Her) (X2 : Her) : Int := chkH p0 st0 [X1, X2]
def RJordanCross0 (p0 : Int) (st0 : List Int) (X1 : Her) (X2 : Her) : Her := if RJordanCross1 p0 st0 X1 X2 = 0 then crossH p0 st0 X1 X2 else ⟨[], []⟩
set_option maxHeartbeats 2000000 in
set_option maxRecDepth 100000 in
theorem iJordanCross_c {p0 : Int} {x0 : Value} {st0 : List Int} {x1 : Value} {X1 : Her} {x2 : Value} {X2 : Her} {w : World} (hx0 : El w x0 st0) (hm0 : st0.length ≤ 1048576) (hx1 : Hv w x1 X1) (hz1 : Hsz X1) (hx2 : Hv w x2 X2) (hz2 : Hsz X2) :
    Calls Tryz.prog 29 #[.agg #[.int .i64 p0, x0], x1, x2] w fun e w' => ∃ v0, e = .returned (.tuple #[v0, .int .i64 (RJordanCross1 p0 st0 X1 X2)]) ∧ OwH w' w.heap.size v0 (RJordanCross0 p0 st0 X1 X2) ∧ Below w.heap.size w w' := by
  obtain ⟨a0, c0, rfl, _⟩ := id hx0.op
  obtain ⟨dv1, uv1, rfl, hd1_, hu1_⟩ := id hx1; obtain ⟨a1, c1, rfl, _⟩ := id hd1_.op; obtain ⟨b1, e1, rfl, _⟩ := id hu1_; clear hd1_ hu1_
  obtain ⟨dv2, uv2, rfl, hd2_, hu2_⟩ := id hx2; obtain ⟨a2, c2, rfl, _⟩ := id hd2_.op; obtain ⟨b2, e2, rfl, _⟩ := id hu2_; clear hd2_ hu2_
  obtain ⟨W, hW⟩ : ∃ W, W = (((((w.alloc (.cells #[.int .i64 p0, .slice a0 st0.length c0] 26)).alloc (.cells #[.slice a1 X1.dg.length c1, .slice b1 X1.up.length e1] 31)).alloc (.cells #[.slice a2 X2.dg.length c2, .slice b2 X2.up.length e2] 31)).alloc (.cells #[.slice none 0 0, .slice none 0 0] 31)).alloc (.cells #[.slice a1 X1.dg.length c1, .slice b1 X1.up.length e1, .slice a2 X2.dg.length c2, .slice b2 X2.up.length e2] 31)) := ⟨_, rfl⟩
  have hbW : Below w.heap.size w W := by rw [hW]; exact (by repeat (first | exact Below.refl _ _ | apply blw_drew | apply blw_alloc | (refine blw_set ?_ (by first | omega | simp <;> omega) _) | refine below_chain ?_ (by assumption)))
  have hx0 := hx0.below hbW
  have hx1 := hx1.below hbW
  have hx2 := hx2.below hbW
  have d00 : W.cell? ⟨w.heap.size, 0, none⟩ = some (.int .i64 p0) := by rw [hW]; simp [go_sem]
  have d01 : W.cell? ⟨w.heap.size, 1, none⟩ = some (.slice a0 st0.length c0) := by rw [hW]; simp [go_sem]
  have d10 : W.cell? ⟨w.heap.size + 1, 0, none⟩ = some (.slice a1 X1.dg.length c1) := by rw [hW]; simp [go_sem]
  have d11 : W.cell? ⟨w.heap.size + 1, 1, none⟩ = some (.slice b1 X1.up.length e1) := by rw [hW]; simp [go_sem]
  have d20 : W.cell? ⟨w.heap.size + 1 + 1, 0, none⟩ = some (.slice a2 X2.dg.length c2) := by rw [hW]; simp [go_sem]
  have d21 : W.cell? ⟨w.heap.size + 1 + 1, 1, none⟩ = some (.slice b2 X2.up.length e2) := by rw [hW]; simp [go_sem]
  have hr : Bx W (w.heap.size + 1 + 1 + 1) (.slice none 0 0) (.slice none 0 0) := by rw [hW]; exact Bx.below (by unfold Bx; rw [show w.heap.size + 1 + 1 + 1 = (((w.alloc (.cells #[.int .i64 p0, .slice a0 st0.length c0] 26)).alloc (.cells #[.slice a1 X1.dg.length c1, .slice b1 X1.up.length e1] 31)).alloc (.cells #[.slice a2 X2.dg.length c2, .slice b2 X2.up.length e2] 31)).heap.size by simp]; exact heap_alloc_new _ _) (by repeat (first | exact Below.refl _ _ | apply blw_drew | apply blw_alloc | (refine blw_set ?_ (by first | omega | simp <;> omega) _) | refine below_chain ?_ (by assumption)))
  have hWs : W.heap.size = w.heap.size + 1 + 1 + 1 + 1 + 1 := by rw [hW]; simp
  have gl : Lh W (.slice (some ⟨w.heap.size + 1 + 1 + 1 + 1, 0, none⟩) 2 2) [X1, X2] := Lh.two hx1 (by rw [hW]; simp [go_sem]) (by rw [hW]; simp [go_sem]) hx2 (by rw [hW]; simp [go_sem]) (by rw [hW]; simp [go_sem])
  have hcon := chkh_c (p := p0) hx0 hm0 gl (by intro X hX; simp at hX; rcases hX with rfl | rfl <;> assumption) (by simp)
  have HWs := Lib.hid hWs; clear hWs
  rw [hW] at hcon
  by_cases h0 : chkH p0 st0 [X1, X2] = 0
  · rw [h0] at hcon
    obtain ⟨hd, hall⟩ := chkH_pos h0
    have hX1 : isH p0 (sz st0.length) X1 = true := by simp at hall; exact hall.1
    have hX2 : isH p0 (sz st0.length) X2 = true := by simp at hall; exact hall.2
    clear hall
    have e1 : RJordanCross1 p0 st0 X1 X2 = 0 := h0
    rw [show RJordanCross0 p0 st0 X1 X2 = crossH p0 st0 X1 X2 from if_pos e1, e1]
    clear e1
    go_enter Tryz.func29, Tryz.ntmps29
    go_wp2_with fail
    refine hcon.mono ?_; rintro e w1 ⟨rfl, hb1⟩
    rw [← hW] at hb1
    clear hW hcon
    have hx0 := hx0.below hb1; have hx1 := hx1.below hb1; have hx2 := hx2.below hb1; have d00 := kept hb1 d00; have d01 := kept hb1 d01; have d10 := kept hb1 d10; have d11 := kept hb1 d11; have d20 := kept hb1 d20; have d21 := kept hb1 d21; have hr := hr.below hb1
    go_wp2_with fail
    refine (cross_c hd hx0 hx1 hX1 hx2 hX2).mono ?_; rintro e w22 ⟨v, rfl, hv, hb22⟩
    have hx0 := hx0.below hb22; have hx1 := hx1.below hb22; have hx2 := hx2.below hb22; have d00 := kept hb22 d00; have d01 := kept hb22 d01; have d10 := kept hb22 d10; have d11 := kept hb22 d11; have d20 := kept hb22 d20; have d21 := kept hb22 d21; have hr := hr.below hb22
    obtain ⟨d, u, us, rfl, ⟨g1, cap1, rfl, h1⟩, hu, hne⟩ := id hv
    obtain ⟨g2, cap2, rfl, _⟩ := id hu
    have hul : us.length = 3 := by obtain ⟨_, _, _, _, h, _⟩ := hu; exact h
    have HU := Lib.hid hul; clear hul
    have hu3 : (crossH p0 st0 X1 X2).up.length = 3 := (isH_parts (crossH_is (by have := hd.hp.lo; omega) (hX1) (hX2))).2.2.1
    have hu4 : (crossH p0 st0 X1 X2).dg.length = 3 := (isH_parts (crossH_is (by have := hd.hp.lo; omega) (hX1) (hX2))).1
    have hz1_ : w.heap.size + 1 + 1 + 1 + 1 + 1 ≤ w1.heap.size := by have := hb1.size; have := HWs.out; omega
    have rc0 := hr.c0; have rc1 := hr.c1; have rf0 := hr.f0; have rf1 := hr.f1
    go_wp2_with fail
    refine bodyPost_ret (v := .tuple #[.agg #[.slice (some ⟨g1, 0, none⟩) (crossH p0 st0 X1 X2).dg.length cap1, .slice (some ⟨g2, 0, none⟩) us.length cap2], .int .i64 0]) (by simp [results, Tryz.results29, go_sem, rc0, rc1, HU.out, hu3, hu4]) rfl ⟨_, rfl, .inr ?_, ?_⟩
    · exact ((hv.set_ (by first | omega | simp <;> omega) _).set_ (by first | omega | simp <;> omega) _).more (below_le (by repeat (first | exact Below.refl _ _ | apply blw_drew | apply blw_alloc | (refine blw_set ?_ (by first | omega | simp <;> omega) _) | refine below_chain ?_ (by assumption))))
    · exact blw_set (blw_set (by repeat (first | exact Below.refl _ _ | apply blw_drew | apply blw_alloc | (refine blw_set ?_ (by first | omega | simp <;> omega) _) | refine below_chain ?_ (by assumption))) (by first | omega | simp <;> omega) _) (by first | omega | simp <;> omega) _
  · have e1 : RJordanCross1 p0 st0 X1 X2 = chkH p0 st0 [X1, X2] := rfl
    rw [show RJordanCross0 p0 st0 X1 X2 = ⟨[], []⟩ from if_neg (by rw [e1]; exact h0), e1]; clear e1
    obtain ⟨k, hk⟩ : ∃ k, k = chkH p0 st0 [X1, X2] := ⟨_, rfl⟩
    rw [← hk] at h0 hcon ⊢
    clear hk
    have hne : (k == 0) = false := by simpa using h0
    go_enter Tryz.func29, Tryz.ntmps29
    go_wp2_with fail
    refine hcon.mono ?_; rintro e w1 ⟨rfl, hb1⟩
    rw [← hW] at hb1
    clear hW hcon
    have hr := hr.below hb1
    have rc0 := hr.c0; have rc1 := hr.c1; have rf0 := hr.f0; have rf1 := hr.f1
    go_wp2_with fail
    refine bodyPost_ret (v := .tuple #[.agg #[.slice none 0 0, .slice none 0 0], .int .i64 k]) (by simp [results, Tryz.results29, go_sem, rc0, rc1]) rfl ⟨_, rfl, .inl ⟨rfl, rfl⟩, ?_⟩
    exact blw_set (blw_set (by repeat (first | exact Below.refl _ _ | apply blw_drew | apply blw_alloc | (refine blw_set ?_ (by first | omega | simp <;> omega) _) | refine below_chain ?_ (by assumption))) (by first | omega | simp <;> omega) _) (by first | omega | simp <;> omega) _
end Go.Proofs.YtgcelfnjijhmkaaGreat
