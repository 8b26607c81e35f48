/-
  Points: the program's and the reference's, and the law.
-/
import Derived.Test.YtapklfdojbicpaaHcW
import Derived.Test.YtapklfdojbicpaaLawE
namespace Go.Proofs.Ytapklfdojbicpaa
open Go.RowKit

def RIsPoint1 (p : Int) (st : List Int) (X : Her) : Int := chkH p st [X]
def RIsPoint0 (p : Int) (st : List Int) (X : Her) : Bool := if chkH p st [X] = 0 then rankH p st X == 1 else false
theorem iIsPoint_c {p0 : Int} {x0 : Value} {st0 : List Int} {x1 : Value} {X1 : Her} {w : World} (hx0 : El w x0 st0) (hm0 : st0.length ≤ 1048576) (hx1 : Hv w x1 X1) (hz1 : Hsz X1) :
    Calls Try.prog 10 #[.agg #[.int .i64 p0, x0], x1] w fun e w' => e = .returned (.tuple #[.bool (RIsPoint0 p0 st0 X1), .int .i64 (RIsPoint1 p0 st0 X1)]) ∧ Below w.heap.size w w' := by
  obtain ⟨a0, c0, rfl, _⟩ := id hx0.op
  obtain ⟨dv1, uv1, rfl, hd1_, hu1_⟩ := id hx1; obtain ⟨a1, c1, rfl, _⟩ := id hd1_.op; obtain ⟨b1, e1, rfl, _⟩ := id hu1_; clear hd1_ hu1_
  obtain ⟨W, hW⟩ : ∃ W, W = (((w.alloc (.cells #[.int .i64 p0, .slice a0 st0.length c0] 26)).alloc (.cells #[.slice a1 X1.dg.length c1, .slice b1 X1.up.length e1] 36)).alloc (.cells #[.slice a1 X1.dg.length c1, .slice b1 X1.up.length e1] 36)) := ⟨_, rfl⟩
  have hbW : Below w.heap.size w W := by rw [hW]; exact (by repeat (first | exact Below.refl _ _ | apply blw_drew | apply blw_alloc | (refine blw_set ?_ (by first | omega | (simp; done) | (simp; omega)) _) | refine below_chain ?_ (by assumption)))
  have hx0 := hx0.below hbW
  have hx1 := hx1.below hbW
  have d00 : W.cell? ⟨w.heap.size, 0, none⟩ = some (.int .i64 p0) := by rw [hW]; simp [go_sem]
  have d01 : W.cell? ⟨w.heap.size, 1, none⟩ = some (.slice a0 st0.length c0) := by rw [hW]; simp [go_sem]
  have d10 : W.cell? ⟨w.heap.size + 1, 0, none⟩ = some (.slice a1 X1.dg.length c1) := by rw [hW]; simp [go_sem]
  have d11 : W.cell? ⟨w.heap.size + 1, 1, none⟩ = some (.slice b1 X1.up.length e1) := by rw [hW]; simp [go_sem]
  have gl : Lh W (.slice (some ⟨w.heap.size + 1 + 1, 0, none⟩) 1 1) [X1] := Lh.one hx1 (by rw [hW]; simp [go_sem]) (by rw [hW]; simp [go_sem])
  have hcon := chkh_c (p := p0) hx0 hm0 gl (by intro X hX; simp at hX; subst hX; exact hz1) (by simp)
  rw [hW] at hcon
  by_cases h0 : chkH p0 st0 [X1] = 0
  · rw [h0] at hcon
    obtain ⟨hd, hall⟩ := chkH_pos h0
    have hX1 : isH p0 (sz st0.length) X1 = true := by simp at hall; exact hall
    rw [show RIsPoint0 p0 st0 X1 = (rankH p0 st0 X1 == 1) from if_pos h0, show RIsPoint1 p0 st0 X1 = 0 from h0]
    clear hall
    go_enter Try.func10, Try.ntmps10
    go_wp2_with fail
    refine hcon.mono ?_; rintro e w1 ⟨rfl, hb1⟩
    rw [← hW] at hb1
    clear hW hcon
    have hx0 := hx0.below hb1; have hx1 := hx1.below hb1; have d00 := kept hb1 d00; have d01 := kept hb1 d01; have d10 := kept hb1 d10; have d11 := kept hb1 d11
    go_wp2_with fail
    refine (rank_c hd hx0 hx1 hX1).mono ?_; rintro e w22 ⟨rfl, hb22⟩
    have hx0 := hx0.below hb22; have hx1 := hx1.below hb22; have d00 := kept hb22 d00; have d01 := kept hb22 d01; have d10 := kept hb22 d10; have d11 := kept hb22 d11
    go_wp2_with fail
    go_ret2
    exact ⟨rfl, (by repeat (first | exact Below.refl _ _ | apply blw_drew | apply blw_alloc | (refine blw_set ?_ (by first | omega | (simp; done) | (simp; omega)) _) | refine below_chain ?_ (by assumption)))⟩
  · rw [show RIsPoint0 p0 st0 X1 = false from if_neg h0, show RIsPoint1 p0 st0 X1 = chkH p0 st0 [X1] from rfl]
    obtain ⟨k, hk⟩ : ∃ k, k = chkH p0 st0 [X1] := ⟨_, rfl⟩
    rw [← hk] at h0 hcon ⊢
    clear hk
    have hne : (k == 0) = false := by simpa using h0
    go_enter Try.func10, Try.ntmps10
    go_wp2_with fail
    refine hcon.mono ?_; rintro e w1 ⟨rfl, hb1⟩
    rw [← hW] at hb1
    clear hW hcon
    go_wp2_with fail
    go_ret2
    exact ⟨rfl, (by repeat (first | exact Below.refl _ _ | apply blw_drew | apply blw_alloc | (refine blw_set ?_ (by first | omega | (simp; done) | (simp; omega)) _) | refine below_chain ?_ (by assumption)))⟩

end Go.Proofs.Ytapklfdojbicpaa
