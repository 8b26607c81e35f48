/- Texts joined for a claim: MarkJ, LawT, LLineThrough, LJordanCross, LIsPoint, LAreIncident. -/
import Derived.Test.YtgcelfnjijhmkaaGreatJao
import Derived.Test.YtgcelfnjijhmkaaGreatJbc
import Derived.Test.YtgcelfnjijhmkaaGreatJap
import Derived.Test.YtgcelfnjijhmkaaGreatCLineThrough
import Derived.Test.YtgcelfnjijhmkaaGreatJbn
import Derived.Test.YtgcelfnjijhmkaaGreatHcW
import Derived.Test.YtgcelfnjijhmkaaGreatJbl
/-
  Sizes of matrices that passed the laws' size check.
-/
namespace Go.Proofs.YtgcelfnjijhmkaaGreat
open Go.RowKit

end Go.Proofs.YtgcelfnjijhmkaaGreat
/-
  What the laws with a matrix as result need beside: results kept over a store into an older block.
-/
namespace Go.Proofs.YtgcelfnjijhmkaaGreat
open Go.RowKit

theorem OwH.set_ {w : World} {B : Nat} {v : Value} {X : Her} (h : OwH w B v X) {p : Addr} (hp : p.block < B) (u : Value) : OwH (w.setCell p u) B v X := by
  rcases h with h | h
  · exact .inl h
  · exact .inr (h.set_ hp u)
theorem OwH.hr {w : World} {B : Nat} {v : Value} {X : Her} (h : OwH w B v X) : Hr w v X := h.hv.hr
theorem Hs.none : Hs ⟨[], []⟩ := ⟨⟨by simp, by simp, fun xs hx => by simp at hx⟩, by simp [sumL]⟩
theorem isH_hs {p : Int} {st : List Int} {X : Her} (hd : Dok p st) (h : isH p (sz st.length) X = true) : Hs X := by
  have hs := sz_le hd
  obtain ⟨a, b, c, u, v, t, rfl, _, _, _, _, _, _, h1, h2, h3⟩ := isH_op h
  have e1 := h1.1; have e2 := h2.1; have e3 := h3.1
  refine ⟨⟨by simp, by simp, fun xs hx => ?_⟩, ?_⟩
  · simp only [List.mem_cons, List.not_mem_nil, or_false] at hx
    rcases hx with rfl | rfl | rfl <;> omega
  · simp only [sumL]; omega
end Go.Proofs.YtgcelfnjijhmkaaGreat
/-
  LineThrough: the law.
-/
namespace Go.Proofs.YtgcelfnjijhmkaaGreat
open Go.RowKit

theorem RLineThrough0_len (p0 : Int) (st0 : List Int) (X1 : Her) (X2 : Her) (_ : st0.length ≤ 1048576) (_ : Hsz X1) (_ : Hsz X2) : Hs (RLineThrough0 p0 st0 X1 X2) := by
  unfold RLineThrough0
  split
  · rename_i h
    have h0 : ptsH p0 st0 [X1, X2] = 0 := by
      unfold RLineThrough1 at h
      split at h
      · assumption
      · exact absurd h (by assumption)
    obtain ⟨hd, hall⟩ := (ptsH_pos h0).1
    simp at hall
    exact isH_hs hd (crossH_is (by have := hd.hp.lo; omega) hall.1 hall.2)
  · exact Hs.none

end Go.Proofs.YtgcelfnjijhmkaaGreat
/-
  JordanCross: the law.
-/
namespace Go.Proofs.YtgcelfnjijhmkaaGreat
open Go.RowKit

end Go.Proofs.YtgcelfnjijhmkaaGreat
/-
  Points: the program's and the reference's, and the law.
-/
namespace Go.Proofs.YtgcelfnjijhmkaaGreat
open Go.RowKit

def RIsPoint1 (p : Int) (st : List Int) (X : Her) : Int := chkH p st [X]
def RIsPoint0 (p : Int) (st : List Int) (X : Her) : Bool := if chkH p st [X] = 0 then rankH p st X == 1 else false
theorem iIsPoint_c {p0 : Int} {x0 : Value} {st0 : List Int} {x1 : Value} {X1 : Her} {w : World} (hx0 : El w x0 st0) (hm0 : st0.length ≤ 1048576) (hx1 : Hv w x1 X1) (hz1 : Hsz X1) :
    Calls Tryz.prog 11 #[.agg #[.int .i64 p0, x0], x1] w fun e w' => e = .returned (.tuple #[.bool (RIsPoint0 p0 st0 X1), .int .i64 (RIsPoint1 p0 st0 X1)]) ∧ Below w.heap.size w w' := by
  obtain ⟨a0, c0, rfl, _⟩ := id hx0.op
  obtain ⟨dv1, uv1, rfl, hd1_, hu1_⟩ := id hx1; obtain ⟨a1, c1, rfl, _⟩ := id hd1_.op; obtain ⟨b1, e1, rfl, _⟩ := id hu1_; clear hd1_ hu1_
  obtain ⟨W, hW⟩ : ∃ W, W = (((w.alloc (.cells #[.int .i64 p0, .slice a0 st0.length c0] 26)).alloc (.cells #[.slice a1 X1.dg.length c1, .slice b1 X1.up.length e1] 31)).alloc (.cells #[.slice a1 X1.dg.length c1, .slice b1 X1.up.length e1] 31)) := ⟨_, rfl⟩
  have hbW : Below w.heap.size w W := by rw [hW]; exact (by repeat (first | exact Below.refl _ _ | apply blw_drew | apply blw_alloc | (refine blw_set ?_ (by first | omega | simp <;> omega) _) | refine below_chain ?_ (by assumption)))
  have hx0 := hx0.below hbW
  have hx1 := hx1.below hbW
  have d00 : W.cell? ⟨w.heap.size, 0, none⟩ = some (.int .i64 p0) := by rw [hW]; simp [go_sem]
  have d01 : W.cell? ⟨w.heap.size, 1, none⟩ = some (.slice a0 st0.length c0) := by rw [hW]; simp [go_sem]
  have d10 : W.cell? ⟨w.heap.size + 1, 0, none⟩ = some (.slice a1 X1.dg.length c1) := by rw [hW]; simp [go_sem]
  have d11 : W.cell? ⟨w.heap.size + 1, 1, none⟩ = some (.slice b1 X1.up.length e1) := by rw [hW]; simp [go_sem]
  have gl : Lh W (.slice (some ⟨w.heap.size + 1 + 1, 0, none⟩) 1 1) [X1] := Lh.one hx1 (by rw [hW]; simp [go_sem]) (by rw [hW]; simp [go_sem])
  have hcon := chkh_c (p := p0) hx0 hm0 gl (by intro X hX; simp at hX; subst hX; exact hz1) (by simp)
  rw [hW] at hcon
  by_cases h0 : chkH p0 st0 [X1] = 0
  · rw [h0] at hcon
    obtain ⟨hd, hall⟩ := chkH_pos h0
    have hX1 : isH p0 (sz st0.length) X1 = true := by simp at hall; exact hall
    rw [show RIsPoint0 p0 st0 X1 = (rankH p0 st0 X1 == 1) from if_pos h0, show RIsPoint1 p0 st0 X1 = 0 from h0]
    clear hall
    go_enter Tryz.func11, Tryz.ntmps11
    go_wp2_with fail
    refine hcon.mono ?_; rintro e w1 ⟨rfl, hb1⟩
    rw [← hW] at hb1
    clear hW hcon
    have hx0 := hx0.below hb1; have hx1 := hx1.below hb1; have d00 := kept hb1 d00; have d01 := kept hb1 d01; have d10 := kept hb1 d10; have d11 := kept hb1 d11
    go_wp2_with fail
    refine (rank_c hd hx0 hx1 hX1).mono ?_; rintro e w22 ⟨rfl, hb22⟩
    have hx0 := hx0.below hb22; have hx1 := hx1.below hb22; have d00 := kept hb22 d00; have d01 := kept hb22 d01; have d10 := kept hb22 d10; have d11 := kept hb22 d11
    go_wp2_with fail
    go_ret2
    exact ⟨rfl, (by repeat (first | exact Below.refl _ _ | apply blw_drew | apply blw_alloc | (refine blw_set ?_ (by first | omega | simp <;> omega) _) | refine below_chain ?_ (by assumption)))⟩
  · rw [show RIsPoint0 p0 st0 X1 = false from if_neg h0, show RIsPoint1 p0 st0 X1 = chkH p0 st0 [X1] from rfl]
    obtain ⟨k, hk⟩ : ∃ k, k = chkH p0 st0 [X1] := ⟨_, rfl⟩
    rw [← hk] at h0 hcon ⊢
    clear hk
    have hne : (k == 0) = false := by simpa using h0
    go_enter Tryz.func11, Tryz.ntmps11
    go_wp2_with fail
    refine hcon.mono ?_; rintro e w1 ⟨rfl, hb1⟩
    rw [← hW] at hb1
    clear hW hcon
    go_wp2_with fail
    go_ret2
    exact ⟨rfl, (by repeat (first | exact Below.refl _ _ | apply blw_drew | apply blw_alloc | (refine blw_set ?_ (by first | omega | simp <;> omega) _) | refine below_chain ?_ (by assumption)))⟩

end Go.Proofs.YtgcelfnjijhmkaaGreat
/-
  Incidence: the program's and the reference's, and the law.
-/
namespace Go.Proofs.YtgcelfnjijhmkaaGreat
open Go.RowKit

def RAreIncident1 (p0 : Int) (st0 : List Int) (X1 : Her) (X2 : Her) : Int := if chkH p0 st0 [X1, X2] = 0 then (if rankH p0 st0 X1 = 1 then 0 else 5) else chkH p0 st0 [X1, X2]
def RAreIncident0 (p0 : Int) (st0 : List Int) (X1 : Her) (X2 : Her) : Bool := if RAreIncident1 p0 st0 X1 X2 = 0 then (pairH p0 st0 X1 X2 == 0) else false
set_option maxHeartbeats 2000000 in
set_option maxRecDepth 100000 in
theorem iAreIncident_c {p0 : Int} {x0 : Value} {st0 : List Int} {x1 : Value} {X1 : Her} {x2 : Value} {X2 : Her} {w : World} (hx0 : El w x0 st0) (hm0 : st0.length ≤ 1048576) (hx1 : Hv w x1 X1) (hz1 : Hsz X1) (hx2 : Hv w x2 X2) (hz2 : Hsz X2) :
    Calls Tryz.prog 25 #[.agg #[.int .i64 p0, x0], x1, x2] w fun e w' => e = .returned (.tuple #[.bool (RAreIncident0 p0 st0 X1 X2), .int .i64 (RAreIncident1 p0 st0 X1 X2)]) ∧ Below w.heap.size w w' := by
  obtain ⟨a0, c0, rfl, _⟩ := id hx0.op
  obtain ⟨dv1, uv1, rfl, hd1_, hu1_⟩ := id hx1; obtain ⟨a1, c1, rfl, _⟩ := id hd1_.op; obtain ⟨b1, e1, rfl, _⟩ := id hu1_; clear hd1_ hu1_
  obtain ⟨dv2, uv2, rfl, hd2_, hu2_⟩ := id hx2; obtain ⟨a2, c2, rfl, _⟩ := id hd2_.op; obtain ⟨b2, e2, rfl, _⟩ := id hu2_; clear hd2_ hu2_
  obtain ⟨W, hW⟩ : ∃ W, W = ((((w.alloc (.cells #[.int .i64 p0, .slice a0 st0.length c0] 26)).alloc (.cells #[.slice a1 X1.dg.length c1, .slice b1 X1.up.length e1] 31)).alloc (.cells #[.slice a2 X2.dg.length c2, .slice b2 X2.up.length e2] 31)).alloc (.cells #[.slice a1 X1.dg.length c1, .slice b1 X1.up.length e1, .slice a2 X2.dg.length c2, .slice b2 X2.up.length e2] 31)) := ⟨_, rfl⟩
  have hbW : Below w.heap.size w W := by rw [hW]; exact (by repeat (first | exact Below.refl _ _ | apply blw_drew | apply blw_alloc | (refine blw_set ?_ (by first | omega | simp <;> omega) _) | refine below_chain ?_ (by assumption)))
  have hx0 := hx0.below hbW
  have hx1 := hx1.below hbW
  have hx2 := hx2.below hbW
  have d00 : W.cell? ⟨w.heap.size, 0, none⟩ = some (.int .i64 p0) := by rw [hW]; simp [go_sem]
  have d01 : W.cell? ⟨w.heap.size, 1, none⟩ = some (.slice a0 st0.length c0) := by rw [hW]; simp [go_sem]
  have d10 : W.cell? ⟨w.heap.size + 1, 0, none⟩ = some (.slice a1 X1.dg.length c1) := by rw [hW]; simp [go_sem]
  have d11 : W.cell? ⟨w.heap.size + 1, 1, none⟩ = some (.slice b1 X1.up.length e1) := by rw [hW]; simp [go_sem]
  have d20 : W.cell? ⟨w.heap.size + 1 + 1, 0, none⟩ = some (.slice a2 X2.dg.length c2) := by rw [hW]; simp [go_sem]
  have d21 : W.cell? ⟨w.heap.size + 1 + 1, 1, none⟩ = some (.slice b2 X2.up.length e2) := by rw [hW]; simp [go_sem]
  have hWs : W.heap.size = w.heap.size + 1 + 1 + 1 + 1 := by rw [hW]; simp
  have gl : Lh W (.slice (some ⟨w.heap.size + 1 + 1 + 1, 0, none⟩) 2 2) [X1, X2] := Lh.two hx1 (by rw [hW]; simp [go_sem]) (by rw [hW]; simp [go_sem]) hx2 (by rw [hW]; simp [go_sem]) (by rw [hW]; simp [go_sem])
  have hcon := chkh_c (p := p0) hx0 hm0 gl (by intro X hX; simp at hX; rcases hX with rfl | rfl <;> assumption) (by simp)
  have HWs := Lib.hid hWs; clear hWs
  rw [hW] at hcon
  by_cases h0 : chkH p0 st0 [X1, X2] = 0
  · rw [h0] at hcon
    obtain ⟨hd, hall⟩ := chkH_pos h0
    have hX1 : isH p0 (sz st0.length) X1 = true := by simp at hall; exact hall.1
    have hX2 : isH p0 (sz st0.length) X2 = true := by simp at hall; exact hall.2
    clear hall
    have hp1 := hd.hp.lo; have hp2 := hd.hp.hi
    obtain ⟨r, hr_⟩ : ∃ r, r = rankH p0 st0 X1 := ⟨_, rfl⟩
    have HRK := Lib.hid hr_
    by_cases h2 : rankH p0 st0 X1 = 1
    · have h2r : r = 1 := hr_.trans h2
      clear hr_
      have e1 : RAreIncident1 p0 st0 X1 X2 = 0 := by unfold RAreIncident1; rw [if_pos h0, if_pos h2]
      rw [show RAreIncident0 p0 st0 X1 X2 = (pairH p0 st0 X1 X2 == 0) from if_pos e1, e1]
      clear e1
      go_enter Tryz.func25, Tryz.ntmps25
      go_wp2_with fail
      refine hcon.mono ?_; rintro e w1 ⟨rfl, hb1⟩
      rw [← hW] at hb1
      clear hW hcon
      have hx0 := hx0.below hb1; have hx1 := hx1.below hb1; have hx2 := hx2.below hb1; have d00 := kept hb1 d00; have d01 := kept hb1 d01; have d10 := kept hb1 d10; have d11 := kept hb1 d11; have d20 := kept hb1 d20; have d21 := kept hb1 d21
      clear h2
      go_wp2_with fail
      refine (rank_c hd hx0 hx1 hX1).mono ?_; rintro e w22 ⟨rfl, hb22⟩
      have hx0 := hx0.below hb22; have hx1 := hx1.below hb22; have hx2 := hx2.below hb22; have d00 := kept hb22 d00; have d01 := kept hb22 d01; have d10 := kept hb22 d10; have d11 := kept hb22 d11; have d20 := kept hb22 d20; have d21 := kept hb22 d21
      rw [← HRK.out]
      go_wp2_with fail
      refine (pairing_c hd hx0 hx1 hX1 hx2 hX2).mono ?_; rintro e w23 ⟨rfl, hb23⟩
      have hx0 := hx0.below hb23; have hx1 := hx1.below hb23; have hx2 := hx2.below hb23; have d00 := kept hb23 d00; have d01 := kept hb23 d01; have d10 := kept hb23 d10; have d11 := kept hb23 d11; have d20 := kept hb23 d20; have d21 := kept hb23 d21
      go_wp2_with fail
      go_ret2
      exact ⟨rfl, (by repeat (first | exact Below.refl _ _ | apply blw_drew | apply blw_alloc | (refine blw_set ?_ (by first | omega | simp <;> omega) _) | refine below_chain ?_ (by assumption)))⟩
    · have h2r : ¬ r = 1 := fun e => h2 (hr_.symm.trans e)
      have hne_ : (r != 1) = true := by simpa using h2r
      clear hr_
      have e1 : RAreIncident1 p0 st0 X1 X2 = 5 := by unfold RAreIncident1; rw [if_pos h0, if_neg h2]
      rw [show RAreIncident0 p0 st0 X1 X2 = false from if_neg (by rw [e1]; decide), e1]
      clear e1
      go_enter Tryz.func25, Tryz.ntmps25
      go_wp2_with fail
      refine hcon.mono ?_; rintro e w1 ⟨rfl, hb1⟩
      rw [← hW] at hb1
      clear hW hcon
      have hx0 := hx0.below hb1; have hx1 := hx1.below hb1; have hx2 := hx2.below hb1; have d00 := kept hb1 d00; have d01 := kept hb1 d01; have d10 := kept hb1 d10; have d11 := kept hb1 d11; have d20 := kept hb1 d20; have d21 := kept hb1 d21
      clear h2
      go_wp2_with fail
      refine (rank_c hd hx0 hx1 hX1).mono ?_; rintro e w22 ⟨rfl, hb22⟩
      have hx0 := hx0.below hb22; have hx1 := hx1.below hb22; have hx2 := hx2.below hb22; have d00 := kept hb22 d00; have d01 := kept hb22 d01; have d10 := kept hb22 d10; have d11 := kept hb22 d11; have d20 := kept hb22 d20; have d21 := kept hb22 d21
      rw [← HRK.out]
      go_wp2_with fail
      go_ret2
      exact ⟨rfl, (by repeat (first | exact Below.refl _ _ | apply blw_drew | apply blw_alloc | (refine blw_set ?_ (by first | omega | simp <;> omega) _) | refine below_chain ?_ (by assumption)))⟩
  · have e1 : RAreIncident1 p0 st0 X1 X2 = chkH p0 st0 [X1, X2] := by unfold RAreIncident1; rw [if_neg h0]
    rw [show RAreIncident0 p0 st0 X1 X2 = false from if_neg (by rw [e1]; exact h0), e1]; clear e1
    obtain ⟨k, hk⟩ : ∃ k, k = chkH p0 st0 [X1, X2] := ⟨_, rfl⟩
    rw [← hk] at h0 hcon ⊢
    clear hk
    have hne : (k == 0) = false := by simpa using h0
    go_enter Tryz.func25, Tryz.ntmps25
    go_wp2_with fail
    refine hcon.mono ?_; rintro e w1 ⟨rfl, hb1⟩
    rw [← hW] at hb1
    clear hW hcon
    go_wp2_with fail
    go_ret2
    exact ⟨rfl, (by repeat (first | exact Below.refl _ _ | apply blw_drew | apply blw_alloc | (refine blw_set ?_ (by first | omega | simp <;> omega) _) | refine below_chain ?_ (by assumption)))⟩

end Go.Proofs.YtgcelfnjijhmkaaGreat
